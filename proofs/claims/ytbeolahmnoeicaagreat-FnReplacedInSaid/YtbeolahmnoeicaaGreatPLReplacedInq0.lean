/- Plain laws of the printed functions. Conditions as each lemma says. -/
import Derived.Test.YtbeolahmnoeicaaGreatPB
import Derived.Test.YtbeolahmnoeicaaGreatWLReplacedIn4
set_option linter.unusedVariables false
set_option linter.unusedSimpArgs false
namespace Go.Proofs.YtbeolahmnoeicaaGreat
open Go Go.Proofs.GL
theorem p_l1In (a b c : Int) : zb.f a b c = some (decide (b ≤ a) && decide (a ≤ c)) := by
 unfold zb.f
 by_cases h : b ≤ a
 ·rw [if_pos (by simpa using h)]; simp [h]
 ·rw [if_neg (by simpa using h)]; simp [h]
theorem p_inRange (a b c : Int) : zl.f a b c = some (decide (b ≤ a) && decide (a ≤ c)) := by
 unfold zl.f
 by_cases h : b ≤ a
 ·rw [if_pos (by simpa using h)]; simp [h]
 ·rw [if_neg (by simpa using h)]; simp [h]
def wZ {α : Type} (_ : α) : Int := 0
def wStr (s : ByteArray) : Int := s.size
def wL {α : Type} (w : α → Int) (p : List α) : Int := p.length + sumW w p
def okZ {α : Type} (_ : α) : Prop := True
def okStr (s : ByteArray) : Prop := s.size ≤ maxN
def okL {α : Type} (ok : α → Prop) (p : List α) : Prop := p.length ≤ maxN ∧ ∀ u ∈ p, ok u
theorem wZ_pos {α : Type} (u : α) : 0 ≤ wZ u := Int.le_refl _
theorem wStr_pos (s : ByteArray) : 0 ≤ wStr s := by unfold wStr; omega
theorem wL_pos {α : Type} {w : α → Int} (h : ∀ u, 0 ≤ w u) (p : List α) : 0 ≤ wL w p := by
 have := sumW_pos (w := w) (us := p) fun u _ => h u
 unfold wL
 omega
theorem wL_len {α : Type} {w : α → Int} (h : ∀ u, 0 ≤ w u) (p : List α) : (p.length : Int) ≤ wL w p := by
 have := sumW_pos (w := w) (us := p) fun u _ => h u
 unfold wL
 omega
theorem wL_big {α : Type} {w : α → Int} (h : ∀ u, 0 ≤ w u) {p : List α} (hp : wL w p ≤ 1000000000) : p.length ≤ big := by
 have := wL_len h p
 unfold big
 omega
theorem wL_cap {α : Type} {w : α → Int} (h : ∀ u, 0 ≤ w u) {p : List α} (hp : wL w p ≤ 1000000000) {n : Nat} (hn : 1000000000 ≤ n) : p.length ≤ n := by
 have := wL_len h p
 omega
theorem wL_mem {α : Type} {w : α → Int} (h : ∀ u, 0 ≤ w u) {p : List α} (hp : wL w p ≤ 1000000000) {u : α} (hu : u ∈ p) : w u ≤ 1000000000 := by
 have := sumW_mem (w := w) (us := p) (fun u _ => h u) u hu
 unfold wL at hp
 omega
theorem sumW_zero {α : Type} {w : α → Int} : ∀ p : List α, (∀ u, w u = 0) → sumW w p = 0
 | [], _ => rfl
 | u :: us, h => by
  have := sumW_zero us h
  have := h u
  unfold sumW
  omega
theorem wL_int (p : List Int) : wL wZ p = p.length := by
 have := sumW_zero (w := wZ) p fun _ => rfl
 unfold wL
 omega
theorem rd_mid {α : Type} (pre : List α) (u : α) (us : List α) : rd? (pre ++ u :: us) (pre.length : Int) = some u := by rw [rd?_at (by simp)]; simp
theorem st_mid {α : Type} (pre : List α) (u v : α) (us : List α) : st? (pre ++ u :: us) (pre.length : Int) v = some (pre ++ v :: us) := by rw [st?_at _ (by simp)]; simp
theorem p_l1All (p : List Int) (a b : Int) (hp : p.length ≤ big) : ze.f p a b = some (p.all fun u => decide (a ≤ u) && decide (u ≤ b)) := by
 unfold ze.f
 have := all_loop p hp (fun u => !(decide (a ≤ u) && decide (u ≤ b))) false (ze.l1 p a b) (fun k i => by rw [ze.l1]; simp only [p_l1In, Option.bind_some]) (((p.length : Int) - 0).toNat + 2) 0 (by omega) (by omega)
 rw [show ((0 : Nat) : Int) = 0 from rfl] at this
 rw [this, List.drop_zero]
 have e : p.any (fun u => !(decide (a ≤ u) && decide (u ≤ b))) = !p.all fun u => decide (a ≤ u) && decide (u ≤ b) := by rw [List.all_eq_not_any_not]; simp
 rw [e]
 cases h : p.all fun u => decide (a ≤ u) && decide (u ≤ b) <;> simp
def okT : Int → List Int → Bool
 | _, [] => true
 | L, [x] => decide (L ≤ x) && decide (x ≤ 1114111)
 | L, x :: y :: r => (decide (L ≤ x) && decide (x ≤ 1114111)) && (decide (x ≤ y) && decide (y ≤ 1114111)) && okT (y + 2) r
def okSet (s : List Int) : Bool := okT 0 s && decide (s.length % 2 = 0) && decide (s.length ≤ 24)
theorem okT_all : ∀ (s : List Int) (L : Int), 0 ≤ L → okT L s = true → ∀ x ∈ s, 0 ≤ x ∧ x ≤ 1114111
 | [], L, _, _, x, hx => by cases hx
 | [y], L, h0, h, x, hx => by
  simp only [okT, Bool.and_eq_true, decide_eq_true_eq] at h
  rw [List.mem_singleton.1 hx]
  omega
 | y :: z :: r, L, h0, h, x, hx => by
  simp only [okT, Bool.and_eq_true, decide_eq_true_eq] at h
  rcases List.mem_cons.1 hx with rfl | hx
  ·omega
  ·rcases List.mem_cons.1 hx with rfl | hx
   ·omega
   ·exact okT_all r (z + 2) (by omega) h.2 x hx
theorem rem2 (n : Nat) : rem? (n : Int) 2 = some (((n % 2 : Nat)) : Int) := by
 unfold rem?
 rw [if_neg (by decide), Int.tmod_eq_emod_of_nonneg (by omega)]
 congr 1
theorem p_implSet_l : ∀ (n : Nat) (rest pre : List Int) (L : Int), rest.length ≤ n → pre.length + rest.length ≤ big → pre.length % 2 = 0 → (pre = [] ∧ L = 0 ∨ ∃ q l, pre = q ++ [l] ∧ L = l + 2 ∧ 0 ≤ l ∧ l ≤ 1114111) → ∀ k, rest.length < k → zm.l1 (pre ++ rest) k pre.length = some (if okT L rest then .go () else .ret false) := by
 intro n
 induction n with
 | zero =>
  intro rest pre L hn hb he hL k hk
  obtain rfl : rest = [] := List.eq_nil_of_length_eq_zero (by omega)
  obtain ⟨k, rfl⟩ := Nat.exists_eq_succ_of_ne_zero (show k ≠ 0 by omega)
  rw [zm.l1, if_neg (by simp)]
  rfl
 | succ n ih =>
  intro rest pre L hn hb he hL k hk
  obtain ⟨k, rfl⟩ := Nat.exists_eq_succ_of_ne_zero (show k ≠ 0 by omega)
  cases rest with
  | nil =>
   rw [zm.l1, if_neg (by simp)]
   rfl
  | cons x r =>
   unfold big at hb
   simp only [List.length_cons] at hn hb hk
   rw [zm.l1, if_pos (by rw [decide_eq_true_eq]; simp only [List.length_append, List.length_cons]; omega), rd_mid]
   simp only [Option.bind_some]
   -- the first of two
   have e1 : ((if (decide ((pre.length : Int) > 0)) = true then ((rem? (pre.length : Int) 2).bind fun u437 => some (u437 == 0)) else (some false)).bind fun (o : Bool) => match o with | x435 => (if x435 = true then ((rd? (pre ++ x :: r) (IntKind.i64.wrap ((pre.length : Int) - 1))).bind fun u440 => some (IntKind.i64.wrap (u440 + 2))) else (if (decide ((pre.length : Int) > 0)) = true then ((rd? (pre ++ x :: r) (IntKind.i64.wrap ((pre.length : Int) - 1))).bind fun u443 => some u443) else (some 0)))) = some L := by
    rcases hL with ⟨rfl, rfl⟩ | ⟨q, l, rfl, rfl, l0, l1⟩
    ·rfl
    ·rw [rem2, he]
     have hp : decide ((((q ++ [l]).length : Nat) : Int) > 0) = true := by simp
     rw [hp]
     simp only [if_true, Option.bind_some]
     rw [if_pos (by decide), yr (n := (((q ++ [l]).length : Nat) : Int) - 1) (by simp <;> omega) (by simp at hb ⊢; omega)]
     have : (((q ++ [l]).length : Nat) : Int) - 1 = (q.length : Int) := by simp
     rw [this, List.append_assoc]
     show ((rd? (q ++ l :: (x :: r)) (q.length : Int)).bind _) = _
     rw [rd_mid]
     simp only [Option.bind_some]
     rw [yr (by omega) (by omega)]
   rw [e1]
   simp only [Option.bind_some, p_inRange]
   have hL0 : 0 ≤ L := by
    rcases hL with ⟨_, rfl⟩ | ⟨_, l, _, rfl, l0, l1⟩ <;> omega
   by_cases hx : L ≤ x ∧ x ≤ 1114111
   ·have c1 : (decide (L ≤ x) && decide (x ≤ 1114111)) = true := by simp [hx]
    rw [c1]
    simp only [Bool.not_true, Bool.false_eq_true, if_false]
    rw [yw pre.length (by omega)]
    cases r with
    | nil =>
     obtain ⟨k, rfl⟩ := Nat.exists_eq_succ_of_ne_zero (show k ≠ 0 by simp at hk; omega)
     rw [zm.l1, if_neg (by simp)]
     simp only [okT, c1, if_true]
    | cons y r =>
     simp only [List.length_cons] at hn hb hk
     obtain ⟨k, rfl⟩ := Nat.exists_eq_succ_of_ne_zero (show k ≠ 0 by omega)
     have hl1 : ((pre.length + 1 : Nat) : Int) = ((pre ++ [x]).length : Int) := by simp
     have ha : pre ++ x :: y :: r = (pre ++ [x]) ++ y :: r := by simp
     rw [zm.l1, hl1, ha, if_pos (by rw [decide_eq_true_eq]; simp only [List.length_append, List.length_cons]; omega), rd_mid]
     simp only [Option.bind_some]
     have e2 : ((if (decide ((((pre ++ [x]).length : Nat) : Int) > 0)) = true then ((rem? (((pre ++ [x]).length : Nat) : Int) 2).bind fun u437 => some (u437 == 0)) else (some false)).bind fun (o : Bool) => match o with | x435 => (if x435 = true then ((rd? ((pre ++ [x]) ++ y :: r) (IntKind.i64.wrap ((((pre ++ [x]).length : Nat) : Int) - 1))).bind fun u440 => some (IntKind.i64.wrap (u440 + 2))) else (if (decide ((((pre ++ [x]).length : Nat) : Int) > 0)) = true then ((rd? ((pre ++ [x]) ++ y :: r) (IntKind.i64.wrap ((((pre ++ [x]).length : Nat) : Int) - 1))).bind fun u443 => some u443) else (some 0)))) = some x := by
      rw [rem2]
      have hp : decide ((((pre ++ [x]).length : Nat) : Int) > 0) = true := by simp
      have hm : (pre ++ [x]).length % 2 = 1 := by simp; omega
      rw [hp, hm]
      simp only [if_true, Option.bind_some]
      rw [if_neg (by decide), yr (n := (((pre ++ [x]).length : Nat) : Int) - 1) (by simp <;> omega) (by simp <;> omega)]
      have : (((pre ++ [x]).length : Nat) : Int) - 1 = (pre.length : Int) := by simp
      rw [this, List.append_assoc]
      show ((rd? (pre ++ x :: (y :: r)) (pre.length : Int)).bind _) = _
      rw [rd_mid]
      rfl
     rw [e2]
     simp only [Option.bind_some, p_inRange]
     by_cases hy : x ≤ y ∧ y ≤ 1114111
     ·have c2 : (decide (x ≤ y) && decide (y ≤ 1114111)) = true := by simp [hy]
      rw [c2]
      simp only [Bool.not_true, Bool.false_eq_true, if_false]
      have hl2 : IntKind.i64.wrap ((((pre ++ [x]).length : Nat) : Int) + 1) = ((pre ++ [x] ++ [y]).length : Int) := by rw [yr (by simp <;> omega) (by simp <;> omega)]; simp only [List.length_append, List.length_singleton]; omega
      have ha2 : (pre ++ [x]) ++ y :: r = (pre ++ [x] ++ [y]) ++ r := by simp
      rw [hl2, ha2, ih r (pre ++ [x] ++ [y]) (y + 2) (by omega) (by simp [big]; omega) (by simp; omega) (.inr ⟨pre ++ [x], y, rfl, rfl, by omega, by omega⟩) k (by omega)]
      simp only [okT, c1, c2, Bool.and_self, Bool.true_and]
     ·have c2 : (decide (x ≤ y) && decide (y ≤ 1114111)) = false := by
       rw [Bool.and_eq_false_iff, decide_eq_false_iff_not, decide_eq_false_iff_not]; omega
      rw [c2]
      simp only [okT, c1, c2, Bool.false_and, Bool.and_false, Bool.not_false, if_true, Option.bind_some, Bool.false_eq_true, if_false]
   ·have c1 : (decide (L ≤ x) && decide (x ≤ 1114111)) = false := by
     rw [Bool.and_eq_false_iff, decide_eq_false_iff_not, decide_eq_false_iff_not]; omega
    rw [c1]
    have : okT L (x :: r) = false := by
     cases r with
     | nil => simp only [okT, c1]
     | cons y r => simp only [okT, c1, Bool.false_and]
    rw [this]
    rfl
theorem p_implSet (s : List Int) (hs : s.length ≤ big) : zm.f s = some (okSet s) := by
 unfold zm.f
 have := p_implSet_l s.length s [] 0 (Nat.le_refl _) (by simpa using hs) rfl (.inl ⟨rfl, rfl⟩) (((s.length : Int) - 0).toNat + 2) (by omega)
 rw [List.nil_append, show ((([] : List Int).length : Nat) : Int) = 0 from rfl] at this
 rw [this, rem2]
 unfold okSet
 cases okT 0 s with
 | false => rfl
 | true =>
  simp only [if_true, Option.bind_some, Bool.true_and]
  by_cases h : s.length % 2 = 0
  ·rw [h, if_pos (by decide)]
   simp
   omega
  ·rw [if_neg (by simp; omega)]
   simp [h]
theorem p_specSet_l : ∀ (n : Nat) (rest pre : List Int) (L : Int), rest.length ≤ n → pre.length + rest.length ≤ big → rest.length % 2 = 0 → (∀ x ∈ rest, 0 ≤ x ∧ x ≤ 1114111) → (pre = [] ∧ L = 0 ∨ ∃ q l, pre = q ++ [l] ∧ L = l + 2 ∧ 0 ≤ l ∧ l ≤ 1114111) → ∀ k, rest.length < k → zf.l1 (pre ++ rest) k pre.length = some (if okT L rest then .go () else .ret false) := by
 intro n
 induction n with
 | zero =>
  intro rest pre L hn hb he hr hL k hk
  obtain rfl : rest = [] := List.eq_nil_of_length_eq_zero (by omega)
  obtain ⟨k, rfl⟩ := Nat.exists_eq_succ_of_ne_zero (show k ≠ 0 by omega)
  rw [zf.l1, if_neg (by simp)]
  rfl
 | succ n ih =>
  intro rest pre L hn hb he hr hL k hk
  obtain ⟨k, rfl⟩ := Nat.exists_eq_succ_of_ne_zero (show k ≠ 0 by omega)
  match rest, hn, hb, he, hr, hk with
  | [], _, _, _, _, _ =>
   rw [zf.l1, if_neg (by simp)]
   rfl
  | [x], _, _, he, _, _ => simp at he
  | x :: y :: r, hn, hb, he, hr, hk =>
   unfold big at hb
   simp only [List.length_cons] at hn hb hk he
   have hx := hr x (by simp)
   have hy := hr y (by simp)
   have ha : pre ++ x :: y :: r = (pre ++ [x]) ++ y :: r := by simp
   have hl1 : IntKind.i64.wrap ((pre.length : Int) + 1) = ((pre ++ [x]).length : Int) := by rw [yr (by omega) (by omega)]; simp only [List.length_append, List.length_singleton]; omega
   have ry : rd? (pre ++ x :: y :: r) (IntKind.i64.wrap ((pre.length : Int) + 1)) = some y := by rw [hl1, ha, rd_mid]
   rw [zf.l1, if_pos (by rw [decide_eq_true_eq]; simp only [List.length_append, List.length_cons]; omega), rd_mid, ry]
   simp only [Option.bind_some]
   have e1 : (if (decide ((pre.length : Int) > 0)) = true then ((rd? (pre ++ x :: y :: r) (IntKind.i64.wrap ((pre.length : Int) - 1))).bind fun u269 => some (decide (x < (IntKind.i64.wrap (u269 + 2))))) else (some false)) = some (decide (x < L)) := by
    rcases hL with ⟨rfl, rfl⟩ | ⟨q, l, rfl, rfl, l0, l1⟩
    ·have : decide (x < 0) = false := by simp; omega
     rw [this]; rfl
    ·rw [if_pos (by simp), yr (n := (((q ++ [l]).length : Nat) : Int) - 1) (by simp <;> omega) (by simp at hb ⊢; omega)]
     have : (((q ++ [l]).length : Nat) : Int) - 1 = (q.length : Int) := by simp
     rw [this, List.append_assoc]
     show ((rd? (q ++ l :: (x :: y :: r)) (q.length : Int)).bind _) = _
     rw [rd_mid]
     simp only [Option.bind_some]
     rw [yr (by omega) (by omega)]
   rw [e1]
   have c0 : decide (x ≤ 1114111) = true := by simp; omega
   have c3 : decide (y ≤ 1114111) = true := by simp; omega
   by_cases hxy : x > y
   ·rw [if_pos (by simpa using hxy)]
    have : decide (x ≤ y) = false := by simp; omega
    simp only [okT, this, Bool.false_and, Bool.and_false, Option.bind_some, if_true, Bool.false_eq_true, if_false]
   ·have c1 : decide (x ≤ y) = true := by simp; omega
    rw [if_neg (by simpa using hxy)]
    simp only [Option.bind_some]
    by_cases hxl : x < L
    ·have c2 : decide (L ≤ x) = false := by simp; omega
     rw [if_pos (by simpa using hxl)]
     simp only [okT, c2, Bool.false_and, Option.bind_some, Bool.false_eq_true, if_false]
    ·have c2 : decide (L ≤ x) = true := by simp; omega
     rw [if_neg (by simpa using hxl)]
     have hl2 : IntKind.i64.wrap ((pre.length : Int) + 2) = ((pre ++ [x] ++ [y]).length : Int) := by rw [yr (by omega) (by omega)]; simp only [List.length_append, List.length_singleton]; omega
     have ha2 : pre ++ x :: y :: r = (pre ++ [x] ++ [y]) ++ r := by simp
     rw [hl2, ha2, ih r (pre ++ [x] ++ [y]) (y + 2) (by omega) (by simp [big]; omega) (by omega) (fun z hz => hr z (by simp [hz])) (.inr ⟨pre ++ [x], y, rfl, rfl, by omega, by omega⟩) k (by omega)]
     simp only [okT, c0, c1, c2, c3, Bool.and_self, Bool.true_and]
theorem p_specSet (s : List Int) (hs : s.length ≤ big) : zf.f s = some (okSet s) := by
 unfold zf.f
 rw [rem2, p_l1All s 0 1114111 hs]
 unfold okSet
 by_cases h1 : s.length % 2 = 1
 ·rw [h1]
  simp [h1]
 ·have h2 : s.length % 2 = 0 := by omega
  rw [h2]
  simp only [Option.bind_some]
  rw [if_neg (by decide)]
  by_cases h3 : (s.length : Int) > 24
  ·rw [if_pos (by simpa using h3)]
   have : decide (s.length ≤ 24) = false := by simp; omega
   rw [this, Bool.and_false]
   rfl
  ·have d3 : decide (s.length ≤ 24) = true := by simp; omega
   rw [if_neg (by simpa using h3), d3]
   simp only [Option.bind_some]
   cases h4 : (s.all fun u => decide (0 ≤ u) && decide (u ≤ 1114111)) with
   | false =>
    have : okT 0 s = false := by
     by_cases h : okT 0 s = true
     ·have h5 := okT_all s 0 (by omega) h
      have : (s.all fun u => decide (0 ≤ u) && decide (u ≤ 1114111)) = true := by
       rw [List.all_eq_true]
       intro x hx
       have := h5 x hx
       simp; omega
      rw [this] at h4; cases h4
     ·simpa using h
    rw [this]
    rfl
   | true =>
    have hr : ∀ x ∈ s, 0 ≤ x ∧ x ≤ 1114111 := fun x hx => by
     have := (List.all_eq_true.1 h4) x hx
     simpa using this
    have := p_specSet_l s.length s [] 0 (Nat.le_refl _) (by simpa using hs) h2 hr (.inl ⟨rfl, rfl⟩) (((s.length : Int) - 0).toNat + 2) (by omega)
    rw [List.nil_append, show ((([] : List Int).length : Nat) : Int) = 0 from rfl] at this
    simp only [Bool.not_true, Bool.false_eq_true, if_false, this, Option.bind_some]
    cases okT 0 s <;> simp
def okRune (r : Int) : Bool := decide (0 ≤ r) && decide (r ≤ 1114111) && !(decide (55296 ≤ r) && decide (r ≤ 57343))
theorem p_specRune (r : Int) : zc.f r = some (okRune r) := by
 unfold zc.f okRune
 simp only [p_l1In, Option.bind_some]
 cases (decide (0 ≤ r) && decide (r ≤ 1114111)) <;> rfl
theorem p_implRune (r : Int) : zn.f r = some (okRune r) := by
 unfold zn.f okRune
 simp only [p_inRange, Option.bind_some]
 cases (decide (0 ≤ r) && decide (r ≤ 1114111)) <;> rfl
theorem p_allRunes (p : List Int) (hp : p.length ≤ big) : zd.f p = some (p.all okRune && decide (p.length ≤ 1000)) := by
 unfold zd.f
 have := all_loop p hp (fun u => !okRune u) false (zd.l1 p) (fun k i => by rw [zd.l1]; simp only [p_specRune, Option.bind_some]) (((p.length : Int) - 0).toNat + 2) 0 (by omega) (by omega)
 rw [show ((0 : Nat) : Int) = 0 from rfl] at this
 rw [this, List.drop_zero]
 have e : p.any (fun u => !okRune u) = !p.all okRune := by rw [List.all_eq_not_any_not]; simp
 rw [e]
 cases h : p.all okRune <;> simp
 omega
abbrev Nd := Int × List Int
/-- How many parts a node has. -/
def ar (k : Int) : Int := if k = 1 ∨ k = 2 then 0 else if k = 6 ∨ k = 7 then 1 else if k = 3 ∨ k = 4 ∨ k = 5 then 2 else -1
theorem p_partsOf (k : Int) : zv.f k = some (ar k) := by
 unfold zv.f ar
 by_cases h1 : k = 1
 ·subst h1; rfl
 ·by_cases h2 : k = 2
  ·subst h2; rfl
  ·by_cases h6 : k = 6
   ·subst h6; rfl
   ·by_cases h7 : k = 7
    ·subst h7; rfl
    ·by_cases h3 : k = 3
     ·subst h3; rfl
     ·by_cases h4 : k = 4
      ·subst h4; rfl
      ·by_cases h5 : k = 5
       ·subst h5; rfl
       ·simp [h1, h2, h3, h4, h5, h6, h7]
theorem p_arity (k : Int) : zg.f k = some (ar k) := by
 unfold zg.f ar
 by_cases h1 : k = 1
 ·subst h1; rfl
 ·by_cases h2 : k = 2
  ·subst h2; rfl
  ·by_cases h6 : k = 6
   ·subst h6; rfl
   ·by_cases h7 : k = 7
    ·subst h7; rfl
    ·by_cases h3 : k = 3
     ·subst h3; rfl
     ·by_cases h4 : k = 4
      ·subst h4; rfl
      ·by_cases h5 : k = 5
       ·subst h5; rfl
       ·simp [h1, h2, h3, h4, h5, h6, h7]
theorem ar_bd (k : Int) : -1 ≤ ar k ∧ ar k ≤ 2 := by unfold ar; split <;> (try split) <;> (try split) <;> omega
def okNd (u : Nd) : Bool := okSet u.2 && u.2.all okRune && (u.1 == 2 || decide (u.2.length = 0))
theorem okSet_len {s : List Int} (h : okSet s = true) : s.length ≤ 24 := by
 simp only [okSet, Bool.and_eq_true, decide_eq_true_eq] at h
 exact h.2
theorem p_implNd_1 (p : List Int) (hp : p.length ≤ big) : zq.f p = some (!p.all okRune) := by
 unfold zq.f zp.f
 have := scan_loop p hp (fun u => !okRune u) (fun i _ => i) (zp.l1 p) (fun k i => by rw [zp.l1]; simp only [zo.f, p_implRune, Option.bind_some]) (((p.length : Int) - 0).toNat + 2) 0 (by omega) (by omega)
 rw [show ((0 : Nat) : Int) = 0 from rfl] at this
 rw [this, List.drop_zero]
 have e : p.all okRune = !(p.any fun u => !okRune u) := List.all_eq_not_any_not
 rw [e, Bool.not_not]
 cases hf : p.findIdx? (fun u => !okRune u) with
 | none =>
  have : p.any (fun u => !okRune u) = false := by
   rw [List.findIdx?_eq_none_iff] at hf
   simpa using hf
  rw [this]; simp
 | some j =>
  obtain ⟨hj, h1, h2⟩ := List.findIdx?_eq_some_iff_getElem.1 hf
  have : p.any (fun u => !okRune u) = true := List.any_eq_true.2 ⟨_, List.getElem_mem hj, h1⟩
  rw [this]
  simp [hj]
theorem p_implNd (u : Nd) (hu : u.2.length ≤ big) : zr.f u.1 u.2 = some (!okNd u) := by
 unfold zr.f okNd
 rw [p_implSet u.2 hu, p_implNd_1 u.2 hu]
 simp only [Option.bind_some]
 cases okSet u.2 with
 | false => rfl
 | true =>
  cases u.2.all okRune with
  | false => rfl
  | true =>
   simp only [Bool.not_true, Bool.false_eq_true, if_false, Bool.true_and]
   by_cases h : u.1 = 2
   ·simp [h]
   ·have h1 : (u.1 != 2) = true := by simpa using h
    have h2 : (u.1 == 2) = false := by simpa using h
    rw [h1, h2]
    simp only [if_true, Bool.false_or]
    by_cases hl : u.2.length = 0
    ·simp [hl]
    ·have := Nat.pos_of_ne_zero hl
     simp [hl, this]
theorem p_specNd (u : Nd) (hu : u.2.length ≤ big) : z0l.f u.1 u.2 = some (decide (0 ≤ ar u.1) && okNd u) := by
 unfold z0l.f okNd
 rw [p_arity, p_specSet u.2 hu, p_allRunes u.2 hu]
 simp only [Option.bind_some]
 by_cases ha : ar u.1 < 0
 ·have h0 : decide (0 ≤ ar u.1) = false := by simp; omega
  rw [if_pos (by simpa using ha), h0]
  rfl
 ·have h0 : decide (0 ≤ ar u.1) = true := by simp; omega
  rw [if_neg (by simpa using ha), h0]
  cases hs : okSet u.2 with
  | false =>
   simp only [Bool.false_and, Bool.and_false]
   by_cases h : u.1 = 2
   ·simp [h]
   ·by_cases hl : (u.2.length : Int) > 0 <;> simp [h, hl]
  | true =>
   have hl := okSet_len hs
   have d : decide (u.2.length ≤ 1000) = true := by simp; omega
   rw [d, Bool.and_true]
   by_cases h : u.1 = 2
   ·simp [h]
   ·by_cases hl2 : u.2.length = 0
    ·simp [h, hl2]
    ·have h1 : (u.1 == 2) = false := by simpa using h
     have := Nat.pos_of_ne_zero hl2
     simp [h, h1, hl2, this]
/-- Nodes, put on a pile of their last parts. -/
def pileR : List Nd → Int → List Int → List (List Int) → Option (List (List Int) × List Int)
 | [], _, pile, out => some (out, pile)
 | u :: us, i, pile, out => if ar u.1 < 0 ∨ ar u.1 > pile.length then none else pileR us (i + 1) (pile.take (pile.length - (ar u.1).toNat) ++ [i]) (out ++ [pile.drop (pile.length - (ar u.1).toNat)])
def okRe (p : List Nd) : Bool := (decide (1 ≤ (p.length : Int)) && decide ((p.length : Int) ≤ 40)) && p.all okNd && (match pileR p 0 [] [] with | some (_, pile) => ((pile.length : Int) == 1) | none => false)
theorem p_parts_l : ∀ (rest pre : List Nd) (pile : List Int) (out : List (List Int)), pre.length + rest.length ≤ 1000000 → pile.length ≤ pre.length → out.length = pre.length → ∀ k, rest.length < k → zx.l1 (pre ++ rest) k out pile pre.length = some (match pileR rest pre.length pile out with | some (o, q) => .go (o, q) | none => .ret ([], false)) := by
 intro rest
 induction rest with
 | nil =>
  intro pre pile out hb hp ho k hk
  obtain ⟨k, rfl⟩ := Nat.exists_eq_succ_of_ne_zero (show k ≠ 0 by omega)
  rw [zx.l1, if_neg (by simp)]
  rfl
 | cons u us ih =>
  intro pre pile out hb hp ho k hk
  obtain ⟨k, rfl⟩ := Nat.exists_eq_succ_of_ne_zero (show k ≠ 0 by omega)
  simp only [List.length_cons] at hb hk
  rw [zx.l1, if_pos (by rw [decide_eq_true_eq]; simp only [List.length_append, List.length_cons]; omega), rd_mid]
  simp only [Option.bind_some, p_partsOf]
  unfold pileR
  have hbd := ar_bd u.1
  by_cases h1 : ar u.1 < 0
  ·rw [if_pos (by simpa using h1), if_pos (.inl h1)]
   rfl
  ·rw [if_neg (by simpa using h1)]
   simp only [Option.bind_some]
   by_cases h2 : ar u.1 > pile.length
   ·rw [if_pos (by simpa using h2), if_pos (.inr h2)]
    try rfl
   ·rw [if_neg (by simpa using h2), if_neg (by omega)]
    obtain ⟨m, hm⟩ := Int.eq_ofNat_of_zero_le (show 0 ≤ ar u.1 by omega)
    rw [hm] at h2 ⊢
    have hml : m ≤ pile.length := by omega
    rw [yr (n := (pile.length : Int) - m) (by omega) (by omega), show (pile.length : Int) - m = ((pile.length - m : Nat) : Int) by omega, Int.toNat_natCast]
    have c1 := cut?_at (xs := pile) (a := pile.length - m) (b := pile.length) (by omega) (Nat.le_refl _)
    have c2 := cut?_at (xs := pile) (a := 0) (b := pile.length - m) (by omega) (by omega)
    rw [show ((0 : Nat) : Int) = 0 from rfl] at c2
    rw [c1, c2]
    simp only [Option.bind_some, List.take_length, List.drop_zero, zw.f]
    rw [app?_at (by simp; omega)]
    simp only [Option.bind_some, List.nil_append]
    rw [app?_at (by simp; omega)]
    simp only [Option.bind_some]
    rw [app?_at (by simp; omega)]
    simp only [Option.bind_some]
    rw [yw pre.length (by omega)]
    have := ih (pre ++ [u]) (pile.take (pile.length - m) ++ [(pre.length : Int)]) (out ++ [pile.drop (pile.length - m)]) (by simp; omega) (by simp; omega) (by simp [ho]) k (by omega)
    simp only [List.length_append, List.length_cons, List.length_nil, Nat.zero_add, List.append_assoc, List.cons_append, List.nil_append] at this
    rw [this]
    rfl
theorem p_parts (p : List Nd) (hp : p.length ≤ 1000000) : zx.f p = some (match pileR p 0 [] [] with | some (o, q) => (o, ((q.length : Int) == 1)) | none => ([], false)) := by
 unfold zx.f
 have := p_parts_l p [] [] [] (by simpa using hp) (Nat.le_refl _) rfl (((p.length : Int) - 0).toNat + 2) (by omega)
 rw [List.nil_append, show ((([] : List Nd).length : Nat) : Int) = 0 from rfl] at this
 rw [this]
 cases pileR p 0 [] [] with
 | none => rfl
 | some o => rfl
theorem p_implRe (p : List Nd) (hp : p.length ≤ big) (hq : ∀ u ∈ p, u.2.length ≤ big) : zy.f p = some (okRe p) := by
 unfold zy.f okRe
 simp only [p_inRange, Option.bind_some]
 cases h1 : (decide (1 ≤ (p.length : Int)) && decide ((p.length : Int) ≤ 40)) with
 | false => rfl
 | true =>
  have hl : p.length ≤ 40 := by simp only [Bool.and_eq_true, decide_eq_true_eq] at h1; omega
  simp only [Bool.not_true, Bool.false_eq_true, if_false, Bool.true_and]
  have key : zu.f p = some (!p.all okNd) := by
   unfold zu.f zt.f
   have key : ∀ (k i : Nat), i ≤ p.length → p.length - i < k → ∃ o, zt.l1 p k i = some o ∧ (if (p.drop i).all okNd then o = .go () else ∃ n : Int, 0 ≤ n ∧ o = .ret n) := by
    intro k
    induction k with
    | zero => intro i _ h; omega
    | succ k ih =>
     intro i hi hk
     rw [zt.l1]
     by_cases h : i < p.length
     ·rw [if_pos (by simpa using h), rd?_at h]
      simp only [Option.bind_some]
      rw [p_implNd _ (hq _ (List.getElem_mem h))]
      simp only [Option.bind_some]
      rw [List.drop_eq_getElem_cons h, List.all_cons]
      cases hr : okNd p[i] with
      | false => exact ⟨.ret i, by simp, by simp⟩
      | true =>
       simp only [Bool.not_true, Bool.false_eq_true, if_false, Bool.true_and]
       rw [yw i (by omega)]
       exact ih (i + 1) h (by omega)
     ·rw [if_neg (by simpa using h)]
      exact ⟨_, rfl, by simp [List.drop_eq_nil_of_le (by omega : p.length ≤ i)]⟩
   obtain ⟨o, g1, g2⟩ := key (((p.length : Int) - 0).toNat + 2) 0 (by omega) (by omega)
   rw [show ((0 : Nat) : Int) = 0 from rfl] at g1
   rw [g1]
   rw [List.drop_zero] at g2
   cases hr : p.all okNd with
   | true =>
    rw [hr, if_pos rfl] at g2
    subst g2
    rfl
   | false =>
    rw [hr] at g2
    obtain ⟨m, hm, rfl⟩ := g2
    simp [hm]
  rw [key]
  simp only [Option.bind_some]
  cases p.all okNd with
  | false => rfl
  | true =>
   simp only [Bool.not_true, Bool.false_eq_true, if_false, Bool.true_and]
   rw [p_parts p (by omega)]
   cases pileR p 0 [] [] with
   | none => rfl
   | some o => rfl
/-- The pile's height alone. -/
def highR : List Nd → Int → Option Int
 | [], n => some n
 | u :: us, n => if ar u.1 < 0 ∨ ar u.1 > n then none else highR us (n + (1 - ar u.1))
theorem pile_high : ∀ (us : List Nd) (i : Int) (pile : List Int) (out : List (List Int)), (pileR us i pile out).map (fun o => (o.2.length : Int)) = highR us pile.length
 | [], i, pile, out => rfl
 | u :: us, i, pile, out => by
  unfold pileR highR
  split
  ·rfl
  ·rename_i h
   rw [pile_high us]
   congr 1
   simp
   omega
theorem high_bd : ∀ (us : List Nd) (n d : Int), 0 ≤ n → highR us n = some d → 0 ≤ d ∧ d ≤ n + us.length
 | [], n, d, h0, h => by
  obtain rfl := Option.some.inj h
  simp; omega
 | u :: us, n, d, h0, h => by
  unfold highR at h
  split at h
  ·cases h
  ·have := ar_bd u.1
   have := high_bd us _ d (by omega) h
   simp only [List.length_cons]
   omega
theorem p_l5Good_l : ∀ (rest pre : List Nd) (n : Int), pre.length + rest.length ≤ 1000000 → 0 ≤ n → n ≤ pre.length → (∀ u ∈ rest, u.2.length ≤ big) → ∀ k, rest.length < k → z0m.l1 (pre ++ rest) k n pre.length = some (if rest.all okNd then (match highR rest n with | some d => .go d | none => .ret false) else .ret false) := by
 intro rest
 induction rest with
 | nil =>
  intro pre n hb h0 h1 hq k hk
  obtain ⟨k, rfl⟩ := Nat.exists_eq_succ_of_ne_zero (show k ≠ 0 by omega)
  rw [z0m.l1, if_neg (by simp)]
  rfl
 | cons u us ih =>
  intro pre n hb h0 h1 hq k hk
  obtain ⟨k, rfl⟩ := Nat.exists_eq_succ_of_ne_zero (show k ≠ 0 by omega)
  simp only [List.length_cons] at hb hk
  rw [z0m.l1, if_pos (by rw [decide_eq_true_eq]; simp only [List.length_append, List.length_cons]; omega), rd_mid]
  simp only [Option.bind_some]
  rw [p_specNd u (hq u (by simp)), p_arity]
  simp only [Option.bind_some]
  have hbd := ar_bd u.1
  rw [List.all_cons]
  unfold highR
  cases hn : okNd u with
  | false =>
   simp only [Bool.and_false, Bool.not_false, if_true, Option.bind_some, Bool.false_and, Bool.false_eq_true, if_false]
  | true =>
   simp only [Bool.and_true, Bool.true_and]
   by_cases ha : ar u.1 < 0
   ·have : decide (0 ≤ ar u.1) = false := by simp; omega
    rw [this, if_pos (show ar u.1 < 0 ∨ ar u.1 > n from .inl ha)]
    simp only [Bool.not_false, if_true, Option.bind_some]
    split <;> rfl
   ·have : decide (0 ≤ ar u.1) = true := by simp; omega
    rw [this]
    simp only [Bool.not_true, Bool.false_eq_true, if_false, Option.bind_some]
    by_cases hg : n < ar u.1
    ·rw [if_pos (by simpa using hg), if_pos (show ar u.1 < 0 ∨ ar u.1 > n by omega)]
     simp only [Option.bind_some]
     split <;> rfl
    ·rw [if_neg (by simpa using hg), if_neg (show ¬ (ar u.1 < 0 ∨ ar u.1 > n) by omega)]
     rw [yr (n := 1 - ar u.1) (by omega) (by omega), yr (n := n + (1 - ar u.1)) (by omega) (by omega), yw pre.length (by omega)]
     have := ih (pre ++ [u]) (n + (1 - ar u.1)) (by simp; omega) (by omega) (by simp; omega) (fun v hv => hq v (List.mem_cons_of_mem _ hv)) k (by omega)
     simp only [List.length_append, List.length_cons, List.length_nil, Nat.zero_add, List.append_assoc, List.cons_append, List.nil_append] at this
     exact this
theorem p_specRe (p : List Nd) (hp : p.length ≤ big) (hq : ∀ u ∈ p, u.2.length ≤ big) : z0n.f p = some (okRe p) := by
 unfold z0n.f okRe
 by_cases h : (p.length : Int) ≤ 40
 ·have d1 : decide ((p.length : Int) ≤ 40) = true := by simpa using h
  rw [if_pos (by simpa using h), d1, Bool.and_true]
  unfold z0m.f
  have := p_l5Good_l p [] 0 (by simp; omega) (Int.le_refl _) (Int.le_refl _) hq (((p.length : Int) - 0).toNat + 2) (by omega)
  rw [List.nil_append, show ((([] : List Nd).length : Nat) : Int) = 0 from rfl] at this
  rw [this]
  have hh := pile_high p 0 [] []
  rw [show ((([] : List Int).length : Nat) : Int) = 0 from rfl] at hh
  cases p.all okNd with
  | false => simp
  | true =>
   simp only [if_true, Option.bind_some, Bool.and_true]
   cases hp0 : pileR p 0 [] [] with
   | none =>
    rw [hp0] at hh
    rw [← hh]
    simp
   | some o =>
    rw [hp0] at hh
    rw [← hh]
    simp only [Option.map_some]
    by_cases hz : 1 ≤ (p.length : Int)
    ·have : decide (1 ≤ (p.length : Int)) = true := by simpa using hz
     rw [this]
     rfl
    ·have hnil : p = [] := List.eq_nil_of_length_eq_zero (by omega)
     subst hnil
     have : o = ([], []) := (Option.some.inj hp0).symm
     subst this
     rfl
 ·have d1 : decide ((p.length : Int) ≤ 40) = false := by simpa using h
  rw [if_neg (by simpa using h), d1, Bool.and_false]
  rfl
def okPl (u : Nd) : Bool := !(u.1 == 5 || u.1 == 7)
theorem p_implPlain (p : List Nd) (hp : p.length ≤ big) : z02.f p = some (p.all okPl) := by
 unfold z02.f z01.f z00.f
 have e1 : ∀ u : Nd, zz.f u.1 u.2 = some (!okPl u) := fun u => by
  unfold zz.f okPl
  by_cases h5 : u.1 = 5
  ·simp [h5]
  ·simp [h5]
 have := scan_loop p hp (fun u => !okPl u) (fun i _ => i) (z00.l1 p) (fun k i => by rw [z00.l1]; simp only [e1, Option.bind_some]) (((p.length : Int) - 0).toNat + 2) 0 (by omega) (by omega)
 rw [show ((0 : Nat) : Int) = 0 from rfl] at this
 rw [this, List.drop_zero]
 have e : p.all okPl = !(p.any fun u => !okPl u) := List.all_eq_not_any_not
 rw [e]
 cases hf : p.findIdx? (fun u => !okPl u) with
 | none =>
  have : p.any (fun u => !okPl u) = false := by
   rw [List.findIdx?_eq_none_iff] at hf
   simpa using hf
  rw [this]; simp
 | some j =>
  obtain ⟨hj, h1, h2⟩ := List.findIdx?_eq_some_iff_getElem.1 hf
  have : p.any (fun u => !okPl u) = true := List.any_eq_true.2 ⟨_, List.getElem_mem hj, h1⟩
  rw [this]
  simp [hj]
theorem p_specPlain (p : List Nd) (hp : p.length ≤ big) (hq : ∀ u ∈ p, u.2.length ≤ big) : z0o.f p = some (okRe p && p.all okPl, okRe p) := by
 unfold z0o.f
 rw [p_specRe p hp hq]
 simp only [Option.bind_some]
 cases okRe p with
 | false => rfl
 | true =>
  simp only [Bool.not_true, Bool.false_eq_true, if_false, Bool.true_and]
  have := all_loop p hp (fun u => !okPl u) (false, true) (z0o.l1 p) (fun k i => by
   rw [z0o.l1]
   split
   ·cases rd? p i with
    | none => rfl
    | some u =>
     simp only [Option.bind_some]
     unfold okPl
     by_cases h5 : u.1 = 5
     ·simp [h5]
     ·by_cases h7 : u.1 = 7 <;> simp [h5, h7]
   ·rfl) (((p.length : Int) - 0).toNat + 2) 0 (by omega) (by omega)
  rw [show ((0 : Nat) : Int) = 0 from rfl] at this
  rw [this, List.drop_zero]
  have e : p.any (fun u => !okPl u) = !p.all okPl := by rw [List.all_eq_not_any_not]; simp
  rw [e]
  cases p.all okPl <;> simp
theorem p_areRunes (p : List Int) (n : Int) (hp : p.length ≤ big) : z06.f p n = some (decide ((p.length : Int) ≤ n) && p.all okRune) := by
 unfold z06.f z05.f z04.f
 by_cases h : (p.length : Int) ≤ n
 ·rw [if_pos (by simpa using h)]
  have := scan_loop p hp (fun u => !okRune u) (fun i _ => i) (z04.l1 p) (fun k i => by rw [z04.l1]; simp only [z03.f, p_implRune, Option.bind_some]) (((p.length : Int) - 0).toNat + 2) 0 (by omega) (by omega)
  rw [show ((0 : Nat) : Int) = 0 from rfl] at this
  rw [this, List.drop_zero]
  have e : p.all okRune = !(p.any fun u => !okRune u) := List.all_eq_not_any_not
  rw [e]
  cases hf : p.findIdx? (fun u => !okRune u) with
  | none =>
   have : p.any (fun u => !okRune u) = false := by
    rw [List.findIdx?_eq_none_iff] at hf
    simpa using hf
   rw [this]; simp [h]
  | some j =>
   obtain ⟨hj, h1, h2⟩ := List.findIdx?_eq_some_iff_getElem.1 hf
   have : p.any (fun u => !okRune u) = true := List.any_eq_true.2 ⟨_, List.getElem_mem hj, h1⟩
   rw [this]
   simp [hj]
 ·rw [if_neg (by simpa using h)]
  simp [h]
theorem okRe_facts {p : List Nd} (h : okRe p = true) : 1 ≤ p.length ∧ p.length ≤ 40 ∧ (∀ u ∈ p, u.2.length ≤ 24 ∧ u.2.length % 2 = 0) ∧ ∃ K q, pileR p 0 [] [] = some (K, q) := by
 unfold okRe at h
 simp only [Bool.and_eq_true, decide_eq_true_eq] at h
 obtain ⟨⟨⟨h1, h2⟩, h3⟩, h4⟩ := h
 refine ⟨by omega, by omega, fun u hu => ?_, ?_⟩
 ·have := List.all_eq_true.1 h3 u hu
  unfold okNd at this
  simp only [Bool.and_eq_true] at this
  have := this.1.1
  unfold okSet at this
  simp only [Bool.and_eq_true, decide_eq_true_eq] at this
  exact ⟨this.2, this.1.2⟩
 ·cases hq : pileR p 0 [] [] with
  | none => rw [hq] at h4; cases h4
  | some o => exact ⟨o.1, o.2, rfl⟩
/-- What may be parsed. -/
def can (p : List Nd) (l : List Int) : Bool := okRe p && p.all okPl && (decide (l.length ≤ 40) && l.all okRune)
theorem can_facts {p : List Nd} {l : List Int} (h : can p l = true) : okRe p = true ∧ p.all okPl = true ∧ l.length ≤ 40 ∧ l.all okRune = true := by
 unfold can at h
 simp only [Bool.and_eq_true, decide_eq_true_eq] at h
 exact ⟨h.1.1, h.1.2, h.2.1, h.2.2⟩
theorem both40 (l : List Int) : ((l.all okRune && decide (l.length ≤ 1000)) && decide ((l.length : Int) ≤ 40)) = (decide (l.length ≤ 40) && l.all okRune) := by
 by_cases h : l.length ≤ 40
 ·have c1 : decide (l.length ≤ 1000) = true := by simp; omega
  have c2 : decide ((l.length : Int) ≤ 40) = true := by simp; omega
  have c3 : decide (l.length ≤ 40) = true := by simpa using h
  rw [c1, c2, c3]; simp
 ·have c2 : decide ((l.length : Int) ≤ 40) = false := by simp; omega
  have c3 : decide (l.length ≤ 40) = false := by simpa using h
  rw [c2, c3]; simp
theorem can_runes (x : List Int) (hx : x.length ≤ big) : z06.f x 40 = some (decide (x.length ≤ 40) && x.all okRune) := by
 rw [p_areRunes x 40 hx]
 congr 1
 by_cases h : x.length ≤ 40
 ·have c2 : decide ((x.length : Int) ≤ 40) = true := by simp; omega
  have c3 : decide (x.length ≤ 40) = true := by simpa using h
  rw [c2, c3]
 ·have c2 : decide ((x.length : Int) ≤ 40) = false := by simp; omega
  have c3 : decide (x.length ≤ 40) = false := by simpa using h
  rw [c2, c3]
theorem q_can (p : List Nd) (l : List Int) (hp : p.length ≤ big) (hq : ∀ u ∈ p, u.2.length ≤ big) (hl : l.length ≤ big) : z07.f p l = some (can p l) ∧ z0p.f p l = some (can p l) := by
 unfold z07.f z0p.f can
 rw [p_implRe p hp hq, p_specPlain p hp hq, p_implPlain p hp]
 simp only [Option.bind_some]
 cases h1 : okRe p with
 | false => exact ⟨rfl, rfl⟩
 | true =>
  cases h2 : p.all okPl with
  | false => exact ⟨rfl, rfl⟩
  | true =>
   simp only [if_true, Bool.and_self, Bool.true_and]
   rw [can_runes l hl, p_allRunes l hl]
   simp only [Option.bind_some]
   refine ⟨trivial, ?_⟩
   rw [← both40 l]
   cases l.all okRune && decide (l.length ≤ 1000) <;> simp
inductive RT where
 | nil : RT
 | set : List Int → RT
 | cat : RT → RT → RT
 | or : RT → RT → RT
 | and : RT → RT → RT
 | star : RT → RT
 | not : RT → RT
def inS : List Int → Int → Bool
 | lo :: hi :: r, x => (decide (lo ≤ x) && decide (x ≤ hi)) || inS r x
 | _, _ => false
def starF (f : List Int → Bool) : Nat → List Int → Bool
 | 0, w => w.isEmpty
 | n + 1, w => w.isEmpty || (List.range w.length).any fun i => f (w.take (i + 1)) && starF f n (w.drop (i + 1))
/-- What a pattern matches. -/
def acc : RT → List Int → Bool
 | .nil, w => w.isEmpty
 | .set s, w => match w with
  | [x] => inS s x
  | _ => false
 | .cat a b, w => (List.range (w.length + 1)).any fun i => acc a (w.take i) && acc b (w.drop i)
 | .or a b, w => acc a w || acc b w
 | .and a b, w => acc a w && acc b w
 | .star a, w => starF (acc a) w.length w
 | .not a, w => !acc a w
theorem starF_more (f : List Int → Bool) : ∀ (n m : Nat) (w : List Int), w.length ≤ n → w.length ≤ m → starF f n w = starF f m w
 | 0, 0, w, _, _ => rfl
 | 0, m + 1, w, h, _ => by
  obtain rfl : w = [] := List.eq_nil_of_length_eq_zero (by omega)
  rfl
 | n + 1, 0, w, _, h => by
  obtain rfl : w = [] := List.eq_nil_of_length_eq_zero (by omega)
  rfl
 | n + 1, m + 1, w, h1, h2 => by
  unfold starF
  congr 1
  rw [Bool.eq_iff_iff, List.any_eq_true, List.any_eq_true]
  constructor
  ·rintro ⟨i, hi, h⟩
   rw [List.mem_range] at hi
   refine ⟨i, List.mem_range.2 hi, ?_⟩
   rw [← starF_more f n m _ (by simp; omega) (by simp; omega)]
   exact h
  ·rintro ⟨i, hi, h⟩
   rw [List.mem_range] at hi
   refine ⟨i, List.mem_range.2 hi, ?_⟩
   rw [starF_more f n m _ (by simp; omega) (by simp; omega)]
   exact h
theorem acc_star (a : RT) (w : List Int) : acc (.star a) w = (w.isEmpty || (List.range w.length).any fun i => acc a (w.take (i + 1)) && acc (.star a) (w.drop (i + 1))) := by
 show starF (acc a) w.length w = _
 cases w with
 | nil => rfl
 | cons x w =>
  rw [List.length_cons]
  conv => lhs; unfold starF
  congr 1
  rw [Bool.eq_iff_iff, List.any_eq_true, List.any_eq_true]
  have key : ∀ i, i < (x :: w).length → starF (acc a) w.length ((x :: w).drop (i + 1)) = acc (.star a) ((x :: w).drop (i + 1)) := fun i hi => by
   show _ = starF (acc a) _ _
   exact starF_more _ _ _ _ (by simp) (Nat.le_refl _)
  constructor
  ·rintro ⟨i, hi, h⟩
   rw [key i (List.mem_range.1 hi)] at h
   exact ⟨i, hi, h⟩
  ·rintro ⟨i, hi, h⟩
   refine ⟨i, hi, ?_⟩
   rw [key i (List.mem_range.1 hi)]
   exact h
/-- A part of a list. -/
def seg (l : List Int) (f t : Nat) : List Int := (l.take t).drop f
theorem seg_len (l : List Int) (f t : Nat) (ht : t ≤ l.length) : (seg l f t).length = t - f := by simp [seg]; omega
theorem seg_take (l : List Int) (f t i : Nat) (h : f + i ≤ t) : (seg l f t).take i = seg l f (f + i) := by
 unfold seg
 rw [List.take_drop, List.take_take, Nat.min_eq_left (by omega)]
theorem seg_drop (l : List Int) (f t i : Nat) : (seg l f t).drop i = seg l (f + i) t := by
 unfold seg
 rw [List.drop_drop]
theorem seg_empty (l : List Int) (f t : Nat) (hf : f ≤ t) (ht : t ≤ l.length) : (seg l f t).isEmpty = decide (f = t) := by
 rw [Bool.eq_iff_iff, List.isEmpty_iff_length_eq_zero, seg_len l f t ht, decide_eq_true_eq]
 omega
theorem seg_one (l : List Int) (f : Nat) (h : f < l.length) : seg l f (f + 1) = [l[f]] := by
 unfold seg
 rw [List.take_succ_eq_append_getElem h, List.drop_append_of_le_length (by simp; omega), List.drop_of_length_le (by simp; omega)]
 rfl
theorem acc_nil_seg (l : List Int) (f t : Nat) (hf : f ≤ t) (ht : t ≤ l.length) : acc .nil (seg l f t) = decide (f = t) := seg_empty l f t hf ht
theorem acc_set_seg (s : List Int) (l : List Int) (f t : Nat) (hf : f ≤ t) (ht : t ≤ l.length) : acc (.set s) (seg l f t) = if h : t = f + 1 then inS s (l[f]'(by omega)) else false := by
 by_cases h : t = f + 1
 ·subst h
  rw [seg_one l f (by omega)]
  simp [acc]
 ·rw [dif_neg h]
  have hl := seg_len l f t ht
  unfold acc
  split
  ·rename_i x hx
   rw [hx] at hl
   simp at hl
   omega
  ·rfl
/-- Over the places between. -/
theorem acc_cat_seg (a b : RT) (l : List Int) (f t : Nat) (hf : f ≤ t) (ht : t ≤ l.length) : acc (.cat a b) (seg l f t) = (List.range (t - f + 1)).any fun i => acc a (seg l f (f + i)) && acc b (seg l (f + i) t) := by
 show (List.range ((seg l f t).length + 1)).any _ = _
 rw [seg_len l f t ht, Bool.eq_iff_iff, List.any_eq_true, List.any_eq_true]
 constructor
 ·rintro ⟨i, hi, h⟩
  have := List.mem_range.1 hi
  rw [seg_take l f t i (by omega), seg_drop] at h
  exact ⟨i, hi, h⟩
 ·rintro ⟨i, hi, h⟩
  have := List.mem_range.1 hi
  refine ⟨i, hi, ?_⟩
  rw [seg_take l f t i (by omega), seg_drop]
  exact h
theorem acc_star_seg (a : RT) (l : List Int) (f t : Nat) (hf : f ≤ t) (ht : t ≤ l.length) : acc (.star a) (seg l f t) = (decide (f = t) || (List.range (t - f)).any fun i => acc a (seg l f (f + 1 + i)) && acc (.star a) (seg l (f + 1 + i) t)) := by
 rw [acc_star, seg_empty l f t hf ht, seg_len l f t ht]
 congr 1
 rw [Bool.eq_iff_iff, List.any_eq_true, List.any_eq_true]
 constructor
 ·rintro ⟨i, hi, h⟩
  have := List.mem_range.1 hi
  rw [seg_take l f t (i + 1) (by omega), seg_drop, show f + (i + 1) = f + 1 + i by omega] at h
  exact ⟨i, hi, h⟩
 ·rintro ⟨i, hi, h⟩
  have := List.mem_range.1 hi
  refine ⟨i, hi, ?_⟩
  rw [seg_take l f t (i + 1) (by omega), seg_drop, show f + (i + 1) = f + 1 + i by omega]
  exact h
/-- The tree of a node, of its parts' trees. -/
def mkT (u : Nd) (ks : List RT) : RT :=
 if u.1 = 1 then .nil else if u.1 = 2 then .set u.2 else
 match ks with
 | [a] => if u.1 = 6 then .star a else .not a
 | [a, b] => if u.1 = 3 then .cat a b else if u.1 = 4 then .or a b else .and a b
 | _ => .nil
/-- All trees, in their nodes' order. -/
def getT (ts : List RT) (i : Int) : RT := (ts[i.toNat]?).getD .nil
def bld : List (List Int × Nd) → List RT → List RT
 | [], ts => ts
 | (ks, u) :: r, ts => bld r (ts ++ [mkT u (ks.map (getT ts))])
theorem bld_len : ∀ (r : List (List Int × Nd)) (ts : List RT), (bld r ts).length = ts.length + r.length
 | [], ts => by simp [bld]
 | (ks, u) :: r, ts => by rw [bld, bld_len r]; simp; omega
theorem bld_pre : ∀ (r : List (List Int × Nd)) (ts : List RT) (i : Nat), i < ts.length → (bld r ts)[i]? = ts[i]?
 | [], ts, i, h => rfl
 | (ks, u) :: r, ts, i, h => by
  rw [bld, bld_pre r _ i (by simp; omega), List.getElem?_append_left h]
theorem bld_at : ∀ (r : List (List Int × Nd)) (ts : List RT) (i : Nat) (ks : List Int) (u : Nd), r[i]? = some (ks, u) → (∀ k ∈ ks, 0 ≤ k ∧ k < ts.length + i) → (bld r ts)[ts.length + i]? = some (mkT u (ks.map (getT (bld r ts))))
 | [], ts, i, ks, u, h, _ => by simp at h
 | (ks', u') :: r, ts, 0, ks, u, h, hk => by
  obtain ⟨rfl, rfl⟩ : ks' = ks ∧ u' = u := by simpa using h
  rw [bld, bld_pre r _ _ (by simp)]
  rw [List.getElem?_append_right (by omega)]
  simp only [Nat.add_zero, Nat.sub_self, List.getElem?_cons_zero, Option.some.injEq]
  congr 1
  refine List.map_congr_left fun k hk' => ?_
  have := hk k hk'
  unfold getT
  rw [bld_pre r _ _ (by simp; omega), List.getElem?_append_left (by omega)]
 | (ks', u') :: r, ts, i + 1, ks, u, h, hk => by
  have := bld_at r (ts ++ [mkT u' (ks'.map (getT ts))]) i ks u (by simpa using h) (fun k hk' => by have := hk k hk'; simp; omega)
  rw [bld]
  rw [List.length_append, List.length_singleton, show ts.length + 1 + i = ts.length + (i + 1) by omega] at this
  exact this
def pairs : List Int → List (Int × Int)
 | lo :: hi :: r => (lo, hi) :: pairs r
 | _ => []
theorem pairs_len : ∀ s : List Int, (pairs s).length ≤ s.length
 | [] => by simp [pairs]
 | [x] => by simp [pairs]
 | x :: y :: r => by have := pairs_len r; simp [pairs]; omega
theorem inS_any : ∀ (s : List Int) (x : Int), (pairs s).any (fun u => decide (u.1 ≤ x) && decide (x ≤ u.2)) = inS s x
 | [], x => rfl
 | [_], x => rfl
 | lo :: hi :: r, x => by
  unfold pairs inS
  rw [List.any_cons, inS_any r x]
theorem p_spans_l : ∀ (n : Nat) (rest pre : List Int) (out : List (Int × Int)), rest.length ≤ n → pre.length + rest.length ≤ 1000000 → out.length ≤ pre.length → ∀ k, rest.length < k → z08.l1 (pre ++ rest) k out pre.length = some (out ++ pairs rest) := by
 intro n
 induction n with
 | zero =>
  intro rest pre out hn hb ho k hk
  obtain rfl : rest = [] := List.eq_nil_of_length_eq_zero (by omega)
  obtain ⟨k, rfl⟩ := Nat.exists_eq_succ_of_ne_zero (show k ≠ 0 by omega)
  rw [z08.l1, yw pre.length (by simp at hb; omega), if_neg (by simp; omega)]
  simp [pairs]
 | succ n ih =>
  intro rest pre out hn hb ho k hk
  obtain ⟨k, rfl⟩ := Nat.exists_eq_succ_of_ne_zero (show k ≠ 0 by omega)
  match rest, hn, hb, hk with
  | [], _, hb, _ =>
   rw [z08.l1, yw pre.length (by simp at hb; omega), if_neg (by simp; omega)]
   simp [pairs]
  | [x], _, hb, _ =>
   rw [z08.l1, yw pre.length (by simp at hb; omega), if_neg (by simp)]
   simp [pairs]
  | x :: y :: r, hn, hb, hk =>
   simp only [List.length_cons] at hn hb hk
   have ha : pre ++ x :: y :: r = (pre ++ [x]) ++ y :: r := by simp
   have hl1 : ((pre.length + 1 : Nat) : Int) = ((pre ++ [x]).length : Int) := by simp
   have ry : rd? (pre ++ x :: y :: r) ((pre.length + 1 : Nat) : Int) = some y := by rw [hl1, ha, rd_mid]
   rw [z08.l1, yw pre.length (by omega), if_pos (by rw [decide_eq_true_eq]; simp only [List.length_append, List.length_cons]; omega), rd_mid, ry]
   simp only [Option.bind_some]
   rw [app?_at (by simp; omega)]
   simp only [Option.bind_some]
   have hl2 : IntKind.i64.wrap ((pre.length : Int) + 2) = ((pre ++ [x] ++ [y]).length : Int) := by rw [yr (by omega) (by omega)]; simp only [List.length_append, List.length_singleton]; omega
   have ha2 : pre ++ x :: y :: r = (pre ++ [x] ++ [y]) ++ r := by simp
   rw [hl2, ha2, ih r (pre ++ [x] ++ [y]) (out ++ [(x, y)]) (by omega) (by simp; omega) (by simp; omega) k (by omega)]
   simp [pairs]
theorem p_spansOf (s : List Int) (hs : s.length ≤ 1000000) : z08.f s = some (pairs s) := by
 unfold z08.f
 have := p_spans_l s.length s [] [] (Nat.le_refl _) (by simpa using hs) (Nat.le_refl _) (((s.length : Int) - IntKind.i64.wrap (0 + 1)).toNat + 2) (by rw [yr (by omega) (by omega)]; omega)
 rw [List.nil_append, show ((([] : List Int).length : Nat) : Int) = 0 from rfl] at this
 rw [this]
 rfl
theorem p_implIn (s : List Int) (x : Int) (hs : s.length ≤ 1000000) : z0c.f s x = some (inS s x) := by
 unfold z0c.f
 rw [p_spansOf s hs]
 simp only [Option.bind_some]
 unfold z0b.f z0a.f
 have hp : (pairs s).length ≤ big := by have := pairs_len s; unfold big; omega
 generalize hq : pairs s = p at *
 have e1 : ∀ u : Int × Int, z09.f u.1 u.2 x = some (decide (u.1 ≤ x) && decide (x ≤ u.2)) := fun u => by
  unfold z09.f
  simp only [p_inRange, Option.bind_some]
 have := scan_loop p hp (fun u => decide (u.1 ≤ x) && decide (x ≤ u.2)) (fun i _ => i) (z0a.l1 p x) (fun k i => by rw [z0a.l1]; simp only [e1, Option.bind_some]) (((p.length : Int) - 0).toNat + 2) 0 (by omega) (by omega)
 rw [show ((0 : Nat) : Int) = 0 from rfl] at this
 rw [this, List.drop_zero]
 have e := inS_any s x
 rw [hq] at e
 rw [← e]
 cases hf : p.findIdx? (fun u => decide (u.1 ≤ x) && decide (x ≤ u.2)) with
 | none =>
  have : p.any (fun u => decide (u.1 ≤ x) && decide (x ≤ u.2)) = false := by
   rw [List.findIdx?_eq_none_iff] at hf
   rw [List.any_eq_false]
   intro u hu
   rw [hf u hu]
   simp
  rw [this]; simp
 | some j =>
  obtain ⟨hj, h1, h2⟩ := List.findIdx?_eq_some_iff_getElem.1 hf
  have : p.any (fun u => decide (u.1 ≤ x) && decide (x ≤ u.2)) = true := List.any_eq_true.2 ⟨_, List.getElem_mem hj, h1⟩
  rw [this]
  simp [hj]
theorem p_specIn_l (x : Int) : ∀ (n : Nat) (rest pre : List Int), rest.length ≤ n → pre.length + rest.length ≤ 1000000 → rest.length % 2 = 0 → ∀ k, rest.length < k → z0r.l1 (pre ++ rest) x k pre.length = some (if inS rest x then .ret true else .go ()) := by
 intro n
 induction n with
 | zero =>
  intro rest pre hn hb he k hk
  obtain rfl : rest = [] := List.eq_nil_of_length_eq_zero (by omega)
  obtain ⟨k, rfl⟩ := Nat.exists_eq_succ_of_ne_zero (show k ≠ 0 by omega)
  rw [z0r.l1, if_neg (by simp)]
  rfl
 | succ n ih =>
  intro rest pre hn hb he k hk
  obtain ⟨k, rfl⟩ := Nat.exists_eq_succ_of_ne_zero (show k ≠ 0 by omega)
  match rest, hn, hb, he, hk with
  | [], _, _, _, _ =>
   rw [z0r.l1, if_neg (by simp)]
   rfl
  | [x], _, _, he, _ => simp at he
  | y :: z :: r, hn, hb, he, hk =>
   simp only [List.length_cons] at hn hb hk he
   have ha : pre ++ y :: z :: r = (pre ++ [y]) ++ z :: r := by simp
   have hl1 : IntKind.i64.wrap ((pre.length : Int) + 1) = ((pre ++ [y]).length : Int) := by rw [yr (by omega) (by omega)]; simp
   have ry : rd? (pre ++ y :: z :: r) (IntKind.i64.wrap ((pre.length : Int) + 1)) = some z := by rw [hl1, ha, rd_mid]
   rw [z0r.l1, if_pos (by rw [decide_eq_true_eq]; simp only [List.length_append, List.length_cons]; omega), rd_mid, ry]
   simp only [Option.bind_some, p_l1In]
   unfold inS
   cases hd : (decide (y ≤ x) && decide (x ≤ z)) with
   | true => rfl
   | false =>
    have hl2 : IntKind.i64.wrap ((pre.length : Int) + 2) = ((pre ++ [y] ++ [z]).length : Int) := by rw [yr (by omega) (by omega)]; simp only [List.length_append, List.length_singleton]; omega
    have ha2 : pre ++ y :: z :: r = (pre ++ [y] ++ [z]) ++ r := by simp
    rw [hl2, ha2, ih r (pre ++ [y] ++ [z]) (by omega) (by simp; omega) (by omega) k (by omega)]
    simp
theorem p_specIn (s : List Int) (x : Int) (hs : s.length ≤ 1000000) (he : s.length % 2 = 0) : z0r.f s x = some (inS s x) := by
 unfold z0r.f
 have := p_specIn_l x s.length s [] (Nat.le_refl _) (by simpa using hs) he (((s.length : Int) - 0).toNat + 2) (by omega)
 rw [List.nil_append, show ((([] : List Int).length : Nat) : Int) = 0 from rfl] at this
 rw [this]
 cases inS s x <;> rfl
/-- Going back over the part that ends at a place. -/
def Scan (p : List Nd) (r s : Int) : Prop := 0 ≤ s ∧ s ≤ r ∧ r < p.length ∧ ∀ (n : Int) (f : Nat), 0 ≤ n → n + (r - s) ≤ 1000000 → z0s.l1 p (f + (r - s + 1).toNat) (n + 1) r = z0s.l1 p f n (s - 1)
/-- A pile, the last part first: each part's last node, and where the part begins. -/
def Pile (p : List Nd) : Int → List Int → Prop
 | e, [] => e = -1
 | e, r :: rs => r = e ∧ ∃ s, Scan p r s ∧ Pile p (s - 1) rs
theorem Scan.leaf {p : List Nd} (hp : p.length ≤ 1000) (i : Nat) (hi : i < p.length) (h : ar p[i].1 = 0) : Scan p i i := by
 refine ⟨by omega, Int.le_refl _, by omega, fun n f h0 h1 => ?_⟩
 rw [show ((i : Int) - i + 1).toNat = 1 by omega, z0s.l1, if_pos (by simp; omega), rd?_at hi]
 simp only [Option.bind_some, p_arity, h]
 rw [yr (n := 0 - 1) (by omega) (by omega), yr (by omega) (by omega), yr (by omega) (by omega)]
 rw [show n + 1 + (0 - 1) = n by omega]
theorem Scan.one {p : List Nd} (hp : p.length ≤ 1000) (i : Nat) (hi : i < p.length) (h : ar p[i].1 = 1) {s : Int} (hs : Scan p ((i : Int) - 1) s) : Scan p i s := by
 obtain ⟨h1, h2, h3, h4⟩ := hs
 refine ⟨h1, by omega, by omega, fun n f h0 h5 => ?_⟩
 rw [show f + ((i : Int) - s + 1).toNat = (f + ((i : Int) - 1 - s + 1).toNat) + 1 by omega, z0s.l1, if_pos (by simp; omega), rd?_at hi]
 simp only [Option.bind_some, p_arity, h]
 rw [yr (n := 1 - 1) (by omega) (by omega), yr (by omega) (by omega), yr (by omega) (by omega)]
 rw [show n + 1 + (1 - 1) = n + 1 by omega]
 exact h4 n f h0 (by omega)
theorem Scan.two {p : List Nd} (hp : p.length ≤ 1000) (i : Nat) (hi : i < p.length) (h : ar p[i].1 = 2) {s s' : Int} (hs : Scan p ((i : Int) - 1) s) (hs' : Scan p (s - 1) s') : Scan p i s' := by
 obtain ⟨h1, h2, h3, h4⟩ := hs
 obtain ⟨g1, g2, g3, g4⟩ := hs'
 refine ⟨g1, by omega, by omega, fun n f h0 h5 => ?_⟩
 rw [show f + ((i : Int) - s' + 1).toNat = ((f + (s - 1 - s' + 1).toNat) + ((i : Int) - 1 - s + 1).toNat) + 1 by omega, z0s.l1, if_pos (by simp; omega), rd?_at hi]
 simp only [Option.bind_some, p_arity, h]
 rw [yr (n := 2 - 1) (by omega) (by omega), yr (by omega) (by omega), yr (by omega) (by omega)]
 rw [show n + 1 + (2 - 1) = (n + 1) + 1 by omega, h4 (n + 1) _ (by omega) (by omega)]
 exact g4 n f h0 (by omega)
theorem first_of {p : List Nd} (hp : p.length ≤ 1000) (i : Nat) (hi : i < p.length) {s : Int} (hs : Scan p ((i : Int) - 1) s) : z0s.f p i = some (s - 1) := by
 obtain ⟨h1, h2, h3, h4⟩ := hs
 unfold z0s.f
 rw [yr (by omega) (by omega)]
 have := h4 0 (p.length + 2 - ((i : Int) - 1 - s + 1).toNat) (by omega) (by omega)
 rw [show p.length + 2 - ((i : Int) - 1 - s + 1).toNat + ((i : Int) - 1 - s + 1).toNat = p.length + 2 by omega, show (0 : Int) + 1 = 1 from rfl] at this
 rw [this]
 obtain ⟨f, hf⟩ := Nat.exists_eq_succ_of_ne_zero (show p.length + 2 - ((i : Int) - 1 - s + 1).toNat ≠ 0 by omega)
 rw [hf, z0s.l1, if_neg (by decide)]
 rfl
def KidOk (p : List Nd) (ks : List Int) (k : Nat) (u : Nd) : Prop := (ar u.1 = 0 → ks = []) ∧ (ar u.1 = 1 → ks = [(k : Int) - 1] ∧ 1 ≤ k) ∧ (ar u.1 = 2 → ∃ f : Int, ks = [f, (k : Int) - 1] ∧ 0 ≤ f ∧ f + 1 < k ∧ z0s.f p k = some f) ∧ 0 ≤ ar u.1
def Kids (p : List Nd) (K : List (List Int)) (n : Nat) : Prop := K.length = n ∧ ∀ (k : Nat) (hk : k < n) (hp : k < p.length), ∃ ks, K[k]? = some ks ∧ KidOk p ks k p[k]
theorem drop_last {α : Type} (l : List α) (a : α) : (l ++ [a]).drop ((l ++ [a]).length - 1) = [a] := by
 rw [List.length_append, List.length_singleton, Nat.add_sub_cancel, List.drop_left]
theorem kids_of (p : List Nd) (hp : p.length ≤ 1000) : ∀ (rest pre : List Nd) (pile : List Int) (out K : List (List Int)) (q : List Int), p = pre ++ rest → Pile p ((pre.length : Int) - 1) pile.reverse → Kids p out pre.length → pileR rest pre.length pile out = some (K, q) → Kids p K p.length ∧ Pile p ((p.length : Int) - 1) q.reverse := by
 intro rest
 induction rest with
 | nil =>
  intro pre pile out K q hpe hP hK h
  rw [List.append_nil] at hpe
  subst hpe
  unfold pileR at h
  injection h with h
  injection h with h1 h2
  subst h1 h2
  exact ⟨hK, hP⟩
 | cons u us ih =>
  intro pre pile out K q hpe hP hK h
  unfold pileR at h
  split at h
  ·cases h
  rename_i hn
  have hi : pre.length < p.length := by rw [hpe]; simp
  have hu : p[pre.length] = u := by subst hpe; simp
  have hbd := ar_bd u.1
  have hl : pre.length = out.length := hK.1.symm
  -- the step, told for what is taken off
  have step : ∀ (pile' ks : List Int), pile.take (pile.length - (ar u.1).toNat) = pile' → pile.drop (pile.length - (ar u.1).toNat) = ks → KidOk p ks pre.length u → (∃ s, Scan p pre.length s ∧ Pile p (s - 1) pile'.reverse) → Kids p K p.length ∧ Pile p ((p.length : Int) - 1) q.reverse := by
   intro pile' ks e1 e2 hk ⟨s, hs, hP'⟩
   rw [e1, e2] at h
   refine ih (pre ++ [u]) (pile' ++ [(pre.length : Int)]) (out ++ [ks]) K q (by rw [hpe]; simp) ?_ ⟨by simp [hK.1], fun k hk1 hk2 => ?_⟩ ?_
   ·rw [List.reverse_append]
    exact ⟨by simp, s, hs, hP'⟩
   ·simp only [List.length_append, List.length_singleton] at hk1
    by_cases hkp : k < pre.length
    ·obtain ⟨ks', g1, g2⟩ := hK.2 k hkp hk2
     exact ⟨ks', by rw [List.getElem?_append_left (by omega)]; exact g1, g2⟩
    ·obtain rfl : k = pre.length := by omega
     refine ⟨ks, by rw [hl, List.getElem?_append_right (Nat.le_refl _)]; simp, ?_⟩
     rw [hu]; exact hk
   ·rw [List.length_append, List.length_singleton]
    exact h
  have hcase : ar u.1 = 0 ∨ ar u.1 = 1 ∨ ar u.1 = 2 := by omega
  rcases hcase with ha | ha | ha
  ·refine step pile [] (by rw [ha]; simp) (by rw [ha]; simp) ⟨fun _ => rfl, fun h => by omega, fun h => by omega, by omega⟩ ⟨pre.length, Scan.leaf hp _ hi (by rw [hu]; exact ha), hP⟩
  ·rcases List.eq_nil_or_concat pile with rfl | ⟨pl, r, rfl⟩
   ·simp at hn; omega
   rw [List.concat_eq_append] at *
   rw [List.reverse_append] at hP
   obtain ⟨hr, s, hs, hP'⟩ := hP
   have hr : r = (pre.length : Int) - 1 := hr
   subst hr
   have h1 : 1 ≤ pre.length := by have := hs.1; have := hs.2.1; omega
   refine step pl [(pre.length : Int) - 1] (by rw [ha]; simp) (by rw [ha]; exact drop_last pl _) ⟨fun h => by omega, fun _ => ⟨rfl, h1⟩, fun h => by omega, by omega⟩ ⟨s, Scan.one hp _ hi (by rw [hu]; exact ha) hs, hP'⟩
  ·rcases List.eq_nil_or_concat pile with rfl | ⟨pl, r, rfl⟩
   ·simp at hn; omega
   rw [List.concat_eq_append] at *
   rcases List.eq_nil_or_concat pl with rfl | ⟨pl, r2, rfl⟩
   ·simp at hn; omega
   rw [List.concat_eq_append] at *
   rw [List.reverse_append, List.reverse_append] at hP
   obtain ⟨hr, s, hs, hr2, s2, hs2, hP'⟩ := hP
   have hr : r = (pre.length : Int) - 1 := hr
   have hr2 : r2 = s - 1 := hr2
   subst hr hr2
   have b1 := hs.1
   have b2 := hs.2.1
   have b3 := hs2.1
   have b4 := hs2.2.1
   refine step pl [s - 1, (pre.length : Int) - 1] (by rw [ha]; simp) (by rw [ha]; simp) ⟨fun h => by omega, fun h => by omega, fun _ => ⟨s - 1, rfl, by omega, by omega, first_of hp _ hi hs⟩, by omega⟩ ⟨s2, Scan.two hp _ hi (by rw [hu]; exact ha) hs hs2, hP'⟩
theorem rd?_get' {α : Type} {xs : List α} {i : Nat} {x : α} (h : xs[i]? = some x) : rd? xs (i : Int) = some x := by
 obtain ⟨h1, h2⟩ := List.getElem?_eq_some_iff.1 h
 rw [rd?_at h1, h2]
/-- The trees of a pattern. -/
def trs (p : List Nd) (K : List (List Int)) : List RT := bld (K.zip p) []
theorem trs_at {p : List Nd} {K : List (List Int)} (hK : Kids p K p.length) {k : Nat} (hk : k < p.length) {ks : List Int} (h : K[k]? = some ks) (hks : ∀ c ∈ ks, 0 ≤ c ∧ c < k) : getT (trs p K) (k : Int) = mkT p[k] (ks.map (getT (trs p K))) := by
 have hz : (K.zip p)[k]? = some (ks, p[k]) := by
  rw [List.getElem?_zip_eq_some]
  exact ⟨h, List.getElem?_eq_getElem hk⟩
 have := bld_at (K.zip p) [] k ks p[k] hz (fun c hc => by have := hks c hc; simp; omega)
 simp only [List.length_nil, Nat.zero_add] at this
 unfold getT
 rw [Int.toNat_natCast]
 show ((bld (K.zip p) [])[k]?).getD .nil = _
 rw [this]
 rfl
theorem ar_cases {k : Int} (h : 0 ≤ ar k) : k = 1 ∨ k = 2 ∨ k = 3 ∨ k = 4 ∨ k = 5 ∨ k = 6 ∨ k = 7 := by
 unfold ar at h
 split at h
 ·omega
 ·split at h
  ·omega
  ·split at h
   ·omega
   ·omega
/-- A node's rows: for the places behind (i, j) they hold what they should. -/
def RowsV (l : List Int) (T : RT) (i j : Nat) (rows : List (List Bool)) : Prop := rows.length = l.length + 1 ∧ ∀ f, f ≤ l.length → ∃ row, rows[f]? = some row ∧ row.length = l.length + 1 ∧ ∀ t, f ≤ t → t ≤ l.length → (i < f ∨ f = i ∧ t < j) → row[t]? = some (acc T (seg l f t))
def RowsA (l : List Int) (T : RT) (rows : List (List Bool)) : Prop := rows.length = l.length + 1 ∧ ∀ f, f ≤ l.length → ∃ row, rows[f]? = some row ∧ row.length = l.length + 1 ∧ ∀ t, f ≤ t → t ≤ l.length → row[t]? = some (acc T (seg l f t))
theorem p_has {p : List Nd} {K : List (List Int)} {l : List Int} {tb : List (List (List Bool))} {T : RT} {c : Nat} {rows : List (List Bool)} (h : tb[c]? = some rows) {f t : Nat} {row : List Bool} {b : Bool} (h2 : rows[f]? = some row) (h3 : row[t]? = some b) : z0d.f p K l tb (c : Int) (f : Int) (t : Int) = some b := by
 unfold z0d.f
 rw [rd?_get' h]
 simp only [Option.bind_some]
 rw [rd?_get' h2]
 simp only [Option.bind_some]
 rw [rd?_get' h3]
 rfl
theorem RowsA.has {p : List Nd} {K : List (List Int)} {l : List Int} {tb : List (List (List Bool))} {T : RT} {c : Nat} {rows : List (List Bool)} (h : tb[c]? = some rows) (hr : RowsA l T rows) {f t : Nat} (hf : f ≤ t) (ht : t ≤ l.length) : z0d.f p K l tb (c : Int) (f : Int) (t : Int) = some (acc T (seg l f t)) := by
 obtain ⟨row, h2, _, h3⟩ := hr.2 f (by omega)
 exact p_has (T := T) h h2 (h3 t hf ht)
theorem RowsV.has {p : List Nd} {K : List (List Int)} {l : List Int} {tb : List (List (List Bool))} {T : RT} {c : Nat} {rows : List (List Bool)} {i j : Nat} (h : tb[c]? = some rows) (hr : RowsV l T i j rows) {f t : Nat} (hf : f ≤ t) (ht : t ≤ l.length) (hij : i < f ∨ f = i ∧ t < j) : z0d.f p K l tb (c : Int) (f : Int) (t : Int) = some (acc T (seg l f t)) := by
 obtain ⟨row, h2, _, h3⟩ := hr.2 f (by omega)
 exact p_has (T := T) h h2 (h3 t hf ht hij)
/-- The table holds the nodes ahead of one. -/
def TbV (l : List Int) (ts : List RT) (n : Nat) (tb : List (List (List Bool))) : Prop := ∀ c, c < n → ∃ rows, tb[c]? = some rows ∧ RowsA l (getT ts (c : Int)) rows
theorem p_lookCat {p : List Nd} {K : List (List Int)} {l : List Int} {tb : List (List (List Bool))} {ks : List Int} {a b f t : Nat} {A B : RT} (hl : l.length ≤ 1000) (ha : rd? ks 0 = some (a : Int)) (hb : rd? ks 1 = some (b : Int)) {ra rb : List (List Bool)} (ha1 : tb[a]? = some ra) (ha2 : RowsA l A ra) (hb1 : tb[b]? = some rb) (hb2 : RowsA l B rb) (hf : f ≤ t) (ht : t ≤ l.length) : ∀ (n i k : Nat), i + n = t - f + 1 → n < k →
  z0e.l2 p K l tb f t ks k ((f + i : Nat) : Int) = some (if (List.range' i n).any (fun i => acc A (seg l f (f + i)) && acc B (seg l (f + i) t)) then .ret true else .go ()) := by
 intro n
 induction n with
 | zero =>
  intro i k hi hk
  obtain ⟨k, rfl⟩ := Nat.exists_eq_succ_of_ne_zero (show k ≠ 0 by omega)
  rw [z0e.l2, if_neg (by simp; omega)]
  rfl
 | succ n ih =>
  intro i k hi hk
  obtain ⟨k, rfl⟩ := Nat.exists_eq_succ_of_ne_zero (show k ≠ 0 by omega)
  rw [z0e.l2, if_pos (by simp; omega), ha, hb]
  simp only [Option.bind_some]
  rw [ha2.has ha1 (by omega) (by omega), hb2.has hb1 (by omega) ht]
  simp only [Option.bind_some]
  rw [List.range'_succ, List.any_cons]
  have e : (if acc A (seg l f (f + i)) = true then some (acc B (seg l (f + i) t)) else some false) = some (acc A (seg l f (f + i)) && acc B (seg l (f + i) t)) := by cases acc A (seg l f (f + i)) <;> rfl
  rw [e]
  simp only [Option.bind_some]
  cases acc A (seg l f (f + i)) && acc B (seg l (f + i) t) with
  | true => simp
  | false =>
   simp only [Bool.false_eq_true, if_false, Bool.false_or]
   rw [yr (by omega) (by omega), show (((f + i : Nat)) : Int) + 1 = ((f + (i + 1) : Nat) : Int) by omega]
   exact ih (i + 1) k (by omega) (by omega)
theorem p_lookStar {p : List Nd} {K : List (List Int)} {l : List Int} {tb : List (List (List Bool))} {ks : List Int} {a c f t : Nat} {A S : RT} (hl : l.length ≤ 1000) (ha : rd? ks 0 = some (a : Int)) {ra rc : List (List Bool)} (ha1 : tb[a]? = some ra) (ha2 : RowsA l A ra) (hc1 : tb[c]? = some rc) (hc2 : RowsV l S f t rc) (hf : f ≤ t) (ht : t ≤ l.length) : ∀ (n i k : Nat), i + n = t - f → n < k →
  z0e.l1 p K l tb c f t ks k ((f + 1 + i : Nat) : Int) = some (if (List.range' i n).any (fun i => acc A (seg l f (f + 1 + i)) && acc S (seg l (f + 1 + i) t)) then .ret (.ret true) else .go ()) := by
 intro n
 induction n with
 | zero =>
  intro i k hi hk
  obtain ⟨k, rfl⟩ := Nat.exists_eq_succ_of_ne_zero (show k ≠ 0 by omega)
  rw [z0e.l1, if_neg (by simp; omega)]
  rfl
 | succ n ih =>
  intro i k hi hk
  obtain ⟨k, rfl⟩ := Nat.exists_eq_succ_of_ne_zero (show k ≠ 0 by omega)
  rw [z0e.l1, if_pos (by simp; omega), ha]
  simp only [Option.bind_some]
  rw [ha2.has ha1 (by omega) (by omega), hc2.has hc1 (by omega) ht (.inl (by omega))]
  simp only [Option.bind_some]
  rw [List.range'_succ, List.any_cons]
  have e : (if acc A (seg l f (f + 1 + i)) = true then some (acc S (seg l (f + 1 + i) t)) else some false) = some (acc A (seg l f (f + 1 + i)) && acc S (seg l (f + 1 + i) t)) := by cases acc A (seg l f (f + 1 + i)) <;> rfl
  rw [e]
  simp only [Option.bind_some]
  cases acc A (seg l f (f + 1 + i)) && acc S (seg l (f + 1 + i) t) with
  | true => simp
  | false =>
   simp only [Bool.false_eq_true, if_false, Bool.false_or]
   rw [yr (by omega) (by omega), show (((f + 1 + i : Nat)) : Int) + 1 = ((f + 1 + (i + 1) : Nat) : Int) by omega]
   exact ih (i + 1) k (by omega) (by omega)
theorem p_look {p : List Nd} {K : List (List Int)} {l : List Int} {tb : List (List (List Bool))} (hp : p.length ≤ 1000) (hset : ∀ u ∈ p, u.2.length ≤ 1000) (hl : l.length ≤ 1000) (hK : Kids p K p.length) {k : Nat} (hk : k < p.length) (htb : TbV l (trs p K) k tb) {rows : List (List Bool)} (hrow : tb[k]? = some rows) {f t : Nat} (hV : RowsV l (getT (trs p K) (k : Int)) f t rows) (hf : f ≤ t) (ht : t ≤ l.length) :
  z0e.f p K l tb (k : Int) (f : Int) (t : Int) = some (acc (getT (trs p K) (k : Int)) (seg l f t)) := by
 obtain ⟨ks, hks, hko⟩ := hK.2 k hk hk
 obtain ⟨k0, k1, k2, k3⟩ := hko
 unfold z0e.f
 rw [rd?_get' hks, rd?_at hk]
 simp only [Option.bind_some]
 have hsk := hset _ (List.getElem_mem hk)
 rcases ar_cases k3 with h | h | h | h | h | h | h
 ·-- nil
  have ht' := trs_at hK hk hks (by rw [k0 (by rw [h]; rfl)]; simp)
  rw [ht']
  simp only [h, mkT, if_true, beq_self_eq_true, Option.bind_some]
  rw [acc_nil_seg l f t hf ht]
  congr 1
  rw [Bool.eq_iff_iff]
  simp
  omega
 ·-- set
  have ht' := trs_at hK hk hks (by rw [k0 (by rw [h]; rfl)]; simp)
  rw [ht']
  have hm : mkT p[k] (ks.map (getT (trs p K))) = .set p[k].2 := by unfold mkT; rw [if_neg (by omega), if_pos h]
  rw [hm, acc_set_seg _ l f t hf ht]
  simp only [h]
  have c1 : ((2 : Int) == 1) = false := by decide
  have c2 : ((2 : Int) == 2) = true := by decide
  simp only [c1, c2, Bool.false_eq_true, if_false, if_true]
  rw [yw f (by omega)]
  by_cases hft : t = f + 1
  ·subst hft
   rw [if_pos (by simp), rd?_at (show f < l.length by omega)]
   simp only [Option.bind_some]
   rw [p_implIn _ _ (by omega)]
   simp
  ·rw [if_neg (by simp; omega), dif_neg hft]
   rfl
 ·-- cat
  obtain ⟨g, e1, g0, g1, _⟩ := k2 (by rw [h]; rfl)
  obtain ⟨g, rfl⟩ := Int.eq_ofNat_of_zero_le g0
  have e2 : ((k : Int) - 1) = ((k - 1 : Nat) : Int) := by omega
  rw [e2] at e1
  have ht' := trs_at hK hk hks (by rw [e1]; intro c hc; simp at hc; omega)
  obtain ⟨ra, ha1, ha2⟩ := htb g (by omega)
  obtain ⟨rb, hb1, hb2⟩ := htb (k - 1) (by omega)
  have hm : mkT p[k] (ks.map (getT (trs p K))) = .cat (getT (trs p K) (g : Int)) (getT (trs p K) ((k - 1 : Nat) : Int)) := by rw [e1]; unfold mkT; simp [h]
  rw [ht', hm, acc_cat_seg _ _ l f t hf ht]
  have hl2 := p_lookCat (p := p) (K := K) (ks := ks) hl (by rw [e1]; rfl) (by rw [e1]; rfl) ha1 ha2 hb1 hb2 hf ht (t - f + 1) 0 (((t : Int) - (f : Int)).toNat + 2) (by omega) (by omega)
  simp only [Nat.add_zero] at hl2
  simp only [h]
  have c1 : ((3 : Int) == 1) = false := by decide
  have c2 : ((3 : Int) == 2) = false := by decide
  have c4 : ((3 : Int) == 4) = false := by decide
  have c5 : ((3 : Int) == 5) = false := by decide
  have c7 : ((3 : Int) == 7) = false := by decide
  have c6 : ((3 : Int) == 6) = false := by decide
  simp only [c1, c2, c4, c5, c6, c7, Bool.false_eq_true, if_false, Option.bind_some]
  rw [hl2, List.range_eq_range']
  simp only [Option.bind_some]
  cases (List.range' 0 (t - f + 1)).any fun i => acc (getT (trs p K) (g : Int)) (seg l f (f + i)) && acc (getT (trs p K) ((k - 1 : Nat) : Int)) (seg l (f + i) t) <;> rfl
 ·-- or
  obtain ⟨g, e1, g0, g1, _⟩ := k2 (by rw [h]; rfl)
  obtain ⟨g, rfl⟩ := Int.eq_ofNat_of_zero_le g0
  have e2 : ((k : Int) - 1) = ((k - 1 : Nat) : Int) := by omega
  rw [e2] at e1
  have ht' := trs_at hK hk hks (by rw [e1]; intro c hc; simp at hc; omega)
  obtain ⟨ra, ha1, ha2⟩ := htb g (by omega)
  obtain ⟨rb, hb1, hb2⟩ := htb (k - 1) (by omega)
  have hm : mkT p[k] (ks.map (getT (trs p K))) = .or (getT (trs p K) (g : Int)) (getT (trs p K) ((k - 1 : Nat) : Int)) := by rw [e1]; unfold mkT; simp [h]
  have r0 : rd? ks 0 = some (g : Int) := by rw [e1]; rfl
  have r1 : rd? ks 1 = some ((k - 1 : Nat) : Int) := by rw [e1]; rfl
  rw [ht', hm]
  simp only [h]
  have c1 : ((4 : Int) == 1) = false := by decide
  have c2 : ((4 : Int) == 2) = false := by decide
  have c4 : ((4 : Int) == 4) = true := by decide
  simp only [c1, c2, c4, Bool.false_eq_true, if_false, if_true, r0, r1, Option.bind_some, ha2.has ha1 hf ht, hb2.has hb1 hf ht]
  show _ = some (acc _ _ || acc _ _)
  cases acc (getT (trs p K) (g : Int)) (seg l f t) <;> rfl
 ·-- and
  obtain ⟨g, e1, g0, g1, _⟩ := k2 (by rw [h]; rfl)
  obtain ⟨g, rfl⟩ := Int.eq_ofNat_of_zero_le g0
  have e2 : ((k : Int) - 1) = ((k - 1 : Nat) : Int) := by omega
  rw [e2] at e1
  have ht' := trs_at hK hk hks (by rw [e1]; intro c hc; simp at hc; omega)
  obtain ⟨ra, ha1, ha2⟩ := htb g (by omega)
  obtain ⟨rb, hb1, hb2⟩ := htb (k - 1) (by omega)
  have hm : mkT p[k] (ks.map (getT (trs p K))) = .and (getT (trs p K) (g : Int)) (getT (trs p K) ((k - 1 : Nat) : Int)) := by rw [e1]; unfold mkT; simp [h]
  have r0 : rd? ks 0 = some (g : Int) := by rw [e1]; rfl
  have r1 : rd? ks 1 = some ((k - 1 : Nat) : Int) := by rw [e1]; rfl
  rw [ht', hm]
  simp only [h]
  have c1 : ((5 : Int) == 1) = false := by decide
  have c2 : ((5 : Int) == 2) = false := by decide
  have c4 : ((5 : Int) == 4) = false := by decide
  have c5 : ((5 : Int) == 5) = true := by decide
  simp only [c1, c2, c4, c5, Bool.false_eq_true, if_false, if_true, r0, r1, Option.bind_some, ha2.has ha1 hf ht, hb2.has hb1 hf ht]
  show _ = some (acc _ _ && acc _ _)
  cases acc (getT (trs p K) (g : Int)) (seg l f t) <;> rfl
 ·-- star
  obtain ⟨e1, g1⟩ := k1 (by rw [h]; rfl)
  have e2 : ((k : Int) - 1) = ((k - 1 : Nat) : Int) := by omega
  rw [e2] at e1
  have ht' := trs_at hK hk hks (by rw [e1]; intro c hc; simp at hc; omega)
  obtain ⟨ra, ha1, ha2⟩ := htb (k - 1) (by omega)
  have hm : mkT p[k] (ks.map (getT (trs p K))) = .star (getT (trs p K) ((k - 1 : Nat) : Int)) := by rw [e1]; unfold mkT; simp [h]
  rw [hm] at ht'
  rw [ht'] at hV ⊢
  rw [acc_star_seg _ l f t hf ht]
  have hl2 := p_lookStar (p := p) (K := K) (ks := ks) hl (by rw [e1]; rfl) ha1 ha2 hrow hV hf ht (t - f) 0 (((t : Int) - (((f + 1 : Nat)) : Int)).toNat + 2) (by omega) (by omega)
  simp only [Nat.add_zero] at hl2
  simp only [h]
  have c1 : ((6 : Int) == 1) = false := by decide
  have c2 : ((6 : Int) == 2) = false := by decide
  have c4 : ((6 : Int) == 4) = false := by decide
  have c5 : ((6 : Int) == 5) = false := by decide
  have c7 : ((6 : Int) == 7) = false := by decide
  have c6 : ((6 : Int) == 6) = true := by decide
  simp only [c1, c2, c4, c5, c6, c7, Bool.false_eq_true, if_false, if_true]
  by_cases hft : f = t
  ·subst hft
   rw [if_pos (by simp)]
   simp
  ·rw [if_neg (by simp; omega), yw f (by omega), hl2, List.range_eq_range']
   have : decide (f = t) = false := by simpa using hft
   rw [this, Bool.false_or]
   simp only [Option.bind_some]
   cases (List.range' 0 (t - f)).any fun i => acc (getT (trs p K) ((k - 1 : Nat) : Int)) (seg l f (f + 1 + i)) && acc (.star (getT (trs p K) ((k - 1 : Nat) : Int))) (seg l (f + 1 + i) t) <;> rfl
 ·-- not
  obtain ⟨e1, g1⟩ := k1 (by rw [h]; rfl)
  have e2 : ((k : Int) - 1) = ((k - 1 : Nat) : Int) := by omega
  rw [e2] at e1
  have ht' := trs_at hK hk hks (by rw [e1]; intro c hc; simp at hc; omega)
  obtain ⟨ra, ha1, ha2⟩ := htb (k - 1) (by omega)
  have hm : mkT p[k] (ks.map (getT (trs p K))) = .not (getT (trs p K) ((k - 1 : Nat) : Int)) := by rw [e1]; unfold mkT; simp [h]
  have r0 : rd? ks 0 = some ((k - 1 : Nat) : Int) := by rw [e1]; rfl
  rw [ht', hm]
  simp only [h]
  have c1 : ((7 : Int) == 1) = false := by decide
  have c2 : ((7 : Int) == 2) = false := by decide
  have c4 : ((7 : Int) == 4) = false := by decide
  have c5 : ((7 : Int) == 5) = false := by decide
  have c7 : ((7 : Int) == 7) = true := by decide
  simp only [c1, c2, c4, c5, c7, Bool.false_eq_true, if_false, if_true, r0, Option.bind_some, ha2.has ha1 hf ht]
  rfl
theorem RowsV.last {l : List Int} {T : RT} {f : Nat} {rows : List (List Bool)} (h : RowsV l T f (l.length + 1) rows) : ∀ g, g + 1 = f → RowsV l T g g rows := fun g hg =>
 ⟨h.1, fun r hr => by
  obtain ⟨row, h1, h2, h3⟩ := h.2 r hr
  exact ⟨row, h1, h2, fun t ht htl ho => h3 t ht htl (by omega)⟩⟩
theorem RowsV.all {l : List Int} {T : RT} {rows : List (List Bool)} (h : RowsV l T 0 (l.length + 1) rows) : RowsA l T rows :=
 ⟨h.1, fun r hr => by
  obtain ⟨row, h1, h2, h3⟩ := h.2 r hr
  exact ⟨row, h1, h2, fun t ht htl => h3 t ht htl (by omega)⟩⟩
theorem TbV.app {l : List Int} {ts : List RT} {tb : List (List (List Bool))} (h : TbV l ts tb.length tb) (r : List (List Bool)) : TbV l ts tb.length (tb ++ [r]) := fun c hc => by
 obtain ⟨rows, h1, h2⟩ := h c hc
 exact ⟨rows, by rw [List.getElem?_append_left hc]; exact h1, h2⟩
theorem p_fillRows (l : List Int) (hl : l.length ≤ 1000) (X : List (List Bool)) (hX : X.length ≤ 2000) : ∀ (m i k : Nat), i + m = X.length → m < k → z0f.l2 l X k (List.replicate i (List.replicate (l.length + 1) false) ++ List.replicate m []) (i : Int) = some (List.replicate (i + m) (List.replicate (l.length + 1) false)) := by
 intro m
 induction m with
 | zero =>
  intro i k hi hk
  obtain ⟨k, rfl⟩ := Nat.exists_eq_succ_of_ne_zero (show k ≠ 0 by omega)
  rw [z0f.l2, if_neg (by simp; omega)]
  simp
 | succ m ih =>
  intro i k hi hk
  obtain ⟨k, rfl⟩ := Nat.exists_eq_succ_of_ne_zero (show k ≠ 0 by omega)
  have r1 := rd_mid (List.replicate i (List.replicate (l.length + 1) false)) ([] : List Bool) (List.replicate m [])
  have r2 := st_mid (List.replicate i (List.replicate (l.length + 1) false)) ([] : List Bool) (List.replicate (l.length + 1) false) (List.replicate m [])
  rw [List.length_replicate] at r1 r2
  rw [z0f.l2, if_pos (by simp; omega), yw l.length (by omega), mk?_at (by omega), List.replicate_succ (n := m), r1]
  simp only [Option.bind_some]
  rw [r2]
  simp only [Option.bind_some]
  rw [yw i (by omega)]
  have := ih (i + 1) k (by omega) (by omega)
  rw [List.replicate_succ' (n := i), List.append_assoc] at this
  rw [show List.replicate m ([] : List Bool) = List.replicate m [] from rfl, show i + (m + 1) = i + 1 + m by omega]
  exact this
theorem p_l4 {p : List Nd} {K : List (List Int)} {bo : Bool} {l : List Int} {tb : List (List (List Bool))} {r0 : List (List Bool)} (hp : p.length ≤ 1000) (hset : ∀ u ∈ p, u.2.length ≤ 1000) (hl : l.length ≤ 1000) (hK : Kids p K p.length) (hk : tb.length < p.length) (htb : TbV l (trs p K) tb.length tb) {f : Nat} (hf : f ≤ l.length) : ∀ (m t k : Nat) (rows : List (List Bool)), f ≤ t → t + m = l.length + 1 → m < k → RowsV l (getT (trs p K) (tb.length : Int)) f t rows → ∃ rows', z0f.l4 p l (K, bo) (tb.length : Int) tb (tb ++ [r0]) (f : Int) k rows (t : Int) = some rows' ∧ RowsV l (getT (trs p K) (tb.length : Int)) f (l.length + 1) rows' := by
 intro m
 induction m with
 | zero =>
  intro t k rows h1 h2 hk2 hV
  obtain ⟨k, rfl⟩ := Nat.exists_eq_succ_of_ne_zero (show k ≠ 0 by omega)
  rw [z0f.l4, if_neg (by simp; omega)]
  obtain rfl : t = l.length + 1 := by omega
  exact ⟨rows, rfl, hV⟩
 | succ m ih =>
  intro t k rows h1 h2 hk2 hV
  obtain ⟨k, rfl⟩ := Nat.exists_eq_succ_of_ne_zero (show k ≠ 0 by omega)
  obtain ⟨row, e1, e2, e3⟩ := hV.2 f hf
  have hrl : f < rows.length := by rw [hV.1]; omega
  have q1 := st_mid tb r0 rows []
  have q2 := p_look hp hset hl hK hk (htb.app rows) (rows := rows) (by rw [List.getElem?_append_right (Nat.le_refl _)]; simp) hV h1 (show t ≤ l.length by omega)
  rw [z0f.l4, if_pos (by simp; omega), rd?_get' e1]
  simp only [Option.bind_some]
  rw [q1]
  simp only [Option.bind_some]
  rw [q2]
  simp only [Option.bind_some]
  rw [rd?_at (show t < row.length by omega)]
  simp only [Option.bind_some]
  rw [st?_at _ (show t < row.length by omega)]
  simp only [Option.bind_some]
  rw [st?_at _ hrl]
  simp only [Option.bind_some]
  rw [yw t (by omega)]
  refine ih (t + 1) k _ (by omega) (by omega) (by omega) ⟨by simpa using hV.1, fun r hr => ?_⟩
  by_cases hfr : f = r
  ·subst hfr
   refine ⟨_, List.getElem?_set_self hrl, by simpa using e2, fun t' g1 g2 g3 => ?_⟩
   by_cases htt : t = t'
   ·subst htt
    rw [List.getElem?_set_self (by omega)]
   ·rw [List.getElem?_set_ne htt]
    exact e3 t' g1 g2 (by omega)
  ·obtain ⟨row', b1, b2, b3⟩ := hV.2 r hr
   exact ⟨row', by rw [List.getElem?_set_ne hfr]; exact b1, b2, fun t' g1 g2 g3 => b3 t' g1 g2 (by omega)⟩
theorem p_l3 {p : List Nd} {K : List (List Int)} {bo : Bool} {l : List Int} {tb : List (List (List Bool))} {r0 : List (List Bool)} (hp : p.length ≤ 1000) (hset : ∀ u ∈ p, u.2.length ≤ 1000) (hl : l.length ≤ 1000) (hK : Kids p K p.length) (hk : tb.length < p.length) (htb : TbV l (trs p K) tb.length tb) : ∀ (q k : Nat) (rows : List (List Bool)), q ≤ l.length + 1 → q < k → RowsV l (getT (trs p K) (tb.length : Int)) q (l.length + 1) rows → ∃ rows', z0f.l3 p l (K, bo) (tb.length : Int) tb (tb ++ [r0]) k rows ((q : Int) - 1) = some (tb ++ [rows']) ∧ RowsA l (getT (trs p K) (tb.length : Int)) rows' := by
 intro q
 induction q with
 | zero =>
  intro k rows h1 hk2 hV
  obtain ⟨k, rfl⟩ := Nat.exists_eq_succ_of_ne_zero (show k ≠ 0 by omega)
  rw [z0f.l3, if_neg (by decide), st_mid tb r0 rows []]
  exact ⟨rows, rfl, hV.all⟩
 | succ q ih =>
  intro k rows h1 hk2 hV
  obtain ⟨k, rfl⟩ := Nat.exists_eq_succ_of_ne_zero (show k ≠ 0 by omega)
  rw [show ((q + 1 : Nat) : Int) - 1 = (q : Int) by omega, z0f.l3, if_pos (by simp)]
  obtain ⟨rows', e1, e2⟩ := p_l4 (bo := bo) (r0 := r0) hp hset hl hK hk htb (f := q) (by omega) (l.length + 1 - q) q (((l.length : Int) - (q : Int)).toNat + 2) rows (Nat.le_refl _) (by omega) (by omega) (hV.last q rfl)
  rw [e1]
  simp only [Option.bind_some]
  rw [yr (by omega) (by omega)]
  exact ih k rows' (by omega) (by omega) e2
theorem p_l1 {p : List Nd} {K : List (List Int)} {bo : Bool} {l : List Int} (hp : p.length ≤ 1000) (hset : ∀ u ∈ p, u.2.length ≤ 1000) (hl : l.length ≤ 1000) (hK : Kids p K p.length) : ∀ (m k : Nat) (tb : List (List (List Bool))), tb.length + m = p.length → m < k → TbV l (trs p K) tb.length tb → ∃ tb', z0f.l1 p l (K, bo) k (tb.length : Int) tb = some tb' ∧ tb'.length = p.length ∧ TbV l (trs p K) p.length tb' := by
 intro m
 induction m with
 | zero =>
  intro k tb h1 hk htb
  obtain ⟨k, rfl⟩ := Nat.exists_eq_succ_of_ne_zero (show k ≠ 0 by omega)
  rw [z0f.l1, if_neg (by simp; omega)]
  exact ⟨tb, rfl, by omega, by rw [← show tb.length = p.length by omega]; exact htb⟩
 | succ m ih =>
  intro k tb h1 hk htb
  obtain ⟨k, rfl⟩ := Nat.exists_eq_succ_of_ne_zero (show k ≠ 0 by omega)
  rw [z0f.l1, if_pos (by simp; omega), yw l.length (by omega), mk?_at (by omega)]
  simp only [Option.bind_some]
  have f1 := p_fillRows l hl (List.replicate (l.length + 1) []) (by simp; omega) (l.length + 1) 0 ((((List.replicate (l.length + 1) ([] : List Bool)).length : Int) - 0).toNat + 2) (by simp) (by simp)
  rw [List.replicate_zero, List.nil_append, show ((0 : Nat) : Int) = 0 from rfl, Nat.zero_add] at f1
  rw [f1]
  simp only [Option.bind_some]
  rw [app?_at (by simp; omega)]
  simp only [Option.bind_some]
  obtain ⟨rows', e1, e2⟩ := p_l3 (bo := bo) (r0 := List.replicate (l.length + 1) (List.replicate (l.length + 1) false)) hp hset hl hK (show tb.length < p.length by omega) htb (l.length + 1) (((l.length : Int) - 0).toNat + 2) (List.replicate (l.length + 1) (List.replicate (l.length + 1) false)) (Nat.le_refl _) (by omega) ⟨by simp, fun r hr => ⟨List.replicate (l.length + 1) false, by rw [List.getElem?_replicate, if_pos (by omega)], by simp, fun t _ _ _ => by omega⟩⟩
  rw [show ((l.length + 1 : Nat) : Int) - 1 = (l.length : Int) by omega] at e1
  rw [e1]
  simp only [Option.bind_some]
  rw [yw tb.length (by omega)]
  have := ih k (tb ++ [rows']) (by simp; omega) (by omega) (by
   rw [List.length_append, List.length_singleton]
   intro c hc
   by_cases hct : c < tb.length
   ·exact htb.app rows' c hct
   ·obtain rfl : c = tb.length := by omega
    exact ⟨rows', by rw [List.getElem?_append_right (Nat.le_refl _)]; simp, e2⟩)
  rw [List.length_append, List.length_singleton] at this
  exact this
theorem p_match {p : List Nd} {K : List (List Int)} {q : List Int} {l : List Int} (hp : p.length ≤ 1000) (hset : ∀ u ∈ p, u.2.length ≤ 1000) (hl : l.length ≤ 1000) (h : pileR p 0 [] [] = some (K, q)) : Kids p K p.length ∧ ∃ tb, z0f.f p l = some (p, K, l, tb) ∧ tb.length = p.length ∧ TbV l (trs p K) p.length tb := by
 have hK : Kids p K p.length := (kids_of p hp p [] [] [] K q rfl rfl ⟨rfl, fun k hk => by simp at hk⟩ h).1
 refine ⟨hK, ?_⟩
 obtain ⟨tb, e1, e2, e3⟩ := p_l1 (bo := ((q.length : Int) == 1)) hp hset hl hK p.length (((p.length : Int) - 0).toNat + 2) [] (by simp) (by omega) (fun c hc => by simp at hc)
 refine ⟨tb, ?_, e2, e3⟩
 unfold z0f.f
 rw [p_parts p (by omega), h]
 simp only [Option.bind_some]
 rw [show (([] : List (List (List Bool))).length : Int) = 0 from rfl] at e1
 rw [e1]
 rfl
theorem ix_flat {n f t : Nat} (hn : n ≤ 1000) (hf : f ≤ n) (ht : t ≤ n) : IntKind.i64.wrap ((IntKind.i64.wrap ((f : Int) * (IntKind.i64.wrap ((n : Int) + 1)))) + (t : Int)) = ((f * (n + 1) + t : Nat) : Int) := by
 have h1 : f * (n + 1) ≤ 1000 * 1001 := Nat.mul_le_mul (by omega) (by omega)
 have h2 : (f : Int) * ((n + 1 : Nat) : Int) = ((f * (n + 1) : Nat) : Int) := by rw [Int.natCast_mul]
 rw [yw n (by omega), h2]
 rw [yr (n := ((f * (n + 1) : Nat) : Int)) (by omega) (by omega), yr (by omega) (by omega)]
 omega
theorem ix_lt {n f t : Nat} (hf : f ≤ n) (ht : t ≤ n) : f * (n + 1) + t < (n + 1) * (n + 1) := by
 have h1 : f * (n + 1) ≤ n * (n + 1) := Nat.mul_le_mul hf (Nat.le_refl _)
 have h2 : (n + 1) * (n + 1) = n * (n + 1) + (n + 1) := Nat.succ_mul n (n + 1)
 omega
theorem ix_inj {n f t f' t' : Nat} (ht : t ≤ n) (ht' : t' ≤ n) (h : f * (n + 1) + t = f' * (n + 1) + t') : f = f' ∧ t = t' := by
 have a1 : (f * (n + 1) + t) / (n + 1) = f := by
  rw [Nat.mul_comm, Nat.mul_add_div (by omega), Nat.div_eq_of_lt (by omega), Nat.add_zero]
 have a2 : (f' * (n + 1) + t') / (n + 1) = f' := by
  rw [Nat.mul_comm, Nat.mul_add_div (by omega), Nat.div_eq_of_lt (by omega), Nat.add_zero]
 have : f = f' := by rw [← a1, ← a2, h]
 subst this
 exact ⟨rfl, by omega⟩
/-- A node's cells, laid flat. -/
def FlatV (l : List Int) (T : RT) (i j : Nat) (fl : List Bool) : Prop := fl.length = (l.length + 1) * (l.length + 1) ∧ ∀ f t, f ≤ t → t ≤ l.length → (i < f ∨ f = i ∧ t < j) → fl[f * (l.length + 1) + t]? = some (acc T (seg l f t))
def FlatA (l : List Int) (T : RT) (fl : List Bool) : Prop := fl.length = (l.length + 1) * (l.length + 1) ∧ ∀ f t, f ≤ t → t ≤ l.length → fl[f * (l.length + 1) + t]? = some (acc T (seg l f t))
theorem FlatA.rd {l : List Int} {T : RT} {fl : List Bool} (h : FlatA l T fl) (hl : l.length ≤ 1000) {f t : Nat} (hf : f ≤ t) (ht : t ≤ l.length) : rd? fl (IntKind.i64.wrap ((IntKind.i64.wrap ((f : Int) * (IntKind.i64.wrap ((l.length : Int) + 1)))) + (t : Int))) = some (acc T (seg l f t)) := by
 rw [ix_flat hl (by omega) ht]
 exact rd?_get' (h.2 f t hf ht)
theorem FlatV.rd {l : List Int} {T : RT} {fl : List Bool} {i j : Nat} (h : FlatV l T i j fl) (hl : l.length ≤ 1000) {f t : Nat} (hf : f ≤ t) (ht : t ≤ l.length) (hij : i < f ∨ f = i ∧ t < j) : rd? fl (IntKind.i64.wrap ((IntKind.i64.wrap ((f : Int) * (IntKind.i64.wrap ((l.length : Int) + 1)))) + (t : Int))) = some (acc T (seg l f t)) := by
 rw [ix_flat hl (by omega) ht]
 exact rd?_get' (h.2 f t hf ht hij)
def TfV (l : List Int) (ts : List RT) (n : Nat) (tb : List (List Bool)) : Prop := ∀ c, c < n → ∃ fl, tb[c]? = some fl ∧ FlatA l (getT ts (c : Int)) fl
theorem p_cellCat {l : List Int} {fa fb : List Bool} {A B : RT} (hl : l.length ≤ 1000) {f t : Nat} (ha : FlatA l A fa) (hb : FlatA l B fb) (hf : f ≤ t) (ht : t ≤ l.length) : ∀ (n i k : Nat), i + n = t - f + 1 → n < k →
  z0t.l2 l f t fa fb k ((f + i : Nat) : Int) = some (if (List.range' i n).any (fun i => acc A (seg l f (f + i)) && acc B (seg l (f + i) t)) then .ret true else .go ()) := by
 intro n
 induction n with
 | zero =>
  intro i k hi hk
  obtain ⟨k, rfl⟩ := Nat.exists_eq_succ_of_ne_zero (show k ≠ 0 by omega)
  rw [z0t.l2, if_neg (by simp; omega)]
  rfl
 | succ n ih =>
  intro i k hi hk
  obtain ⟨k, rfl⟩ := Nat.exists_eq_succ_of_ne_zero (show k ≠ 0 by omega)
  rw [z0t.l2, if_pos (by simp; omega), ha.rd hl (by omega) (by omega), hb.rd hl (by omega) ht]
  simp only [Option.bind_some]
  rw [List.range'_succ, List.any_cons]
  have e : (if acc A (seg l f (f + i)) = true then some (acc B (seg l (f + i) t)) else some false) = some (acc A (seg l f (f + i)) && acc B (seg l (f + i) t)) := by cases acc A (seg l f (f + i)) <;> rfl
  rw [e]
  simp only [Option.bind_some]
  cases acc A (seg l f (f + i)) && acc B (seg l (f + i) t) with
  | true => simp
  | false =>
   simp only [Bool.false_eq_true, if_false, Bool.false_or]
   rw [yr (n := ((f + i : Nat) : Int) + 1) (by omega) (by omega), show (((f + i : Nat)) : Int) + 1 = ((f + (i + 1) : Nat) : Int) by omega]
   exact ih (i + 1) k (by omega) (by omega)
/-- Where the rest is empty, a repetition holds. -/
theorem acc_star_nil (A : RT) (l : List Int) (t : Nat) (ht : t ≤ l.length) : acc (.star A) (seg l t t) = true := by
 rw [acc_star_seg A l t t (Nat.le_refl _) ht]
 simp
theorem p_cellStar {l : List Int} {tb : List (List Bool)} {fl fa : List Bool} {A : RT} {k : Nat} {K : RT} (hl : l.length ≤ 1000) {f t : Nat} (hk1 : 1 ≤ k) (hk2 : k ≤ 1000) (ha0 : tb[k - 1]? = some fa) (ha : FlatA l A fa) (hs : FlatV l (.star A) f t fl) (hf : f ≤ t) (ht : t ≤ l.length) : ∀ (n i kf : Nat), i + n = t - f → n < kf →
  z0t.l1 tb fl l k f t kf ((f + 1 + i : Nat) : Int) = some (if (List.range' i n).any (fun i => acc A (seg l f (f + 1 + i)) && acc (.star A) (seg l (f + 1 + i) t)) then .ret (.ret true) else .go ()) := by
 intro n
 induction n with
 | zero =>
  intro i kf hi hk
  obtain ⟨kf, rfl⟩ := Nat.exists_eq_succ_of_ne_zero (show kf ≠ 0 by omega)
  rw [z0t.l1, if_neg (by simp; omega)]
  rfl
 | succ n ih =>
  intro i kf hi hk
  obtain ⟨kf, rfl⟩ := Nat.exists_eq_succ_of_ne_zero (show kf ≠ 0 by omega)
  rw [z0t.l1, if_pos (by simp; omega), yr (n := (k : Int) - 1) (by omega) (by omega), show (k : Int) - 1 = ((k - 1 : Nat) : Int) by omega, rd?_get' ha0]
  simp only [Option.bind_some]
  rw [ha.rd hl (by omega) (by omega)]
  simp only [Option.bind_some]
  rw [List.range'_succ, List.any_cons, hs.rd hl (by omega) ht (.inl (by omega))]
  simp only [Option.bind_some]
  have e : (if acc A (seg l f (f + 1 + i)) = true then (if (((f + 1 + i : Nat) : Int) == (t : Int)) = true then some true else some (acc (.star A) (seg l (f + 1 + i) t))) else some false) = some (acc A (seg l f (f + 1 + i)) && acc (.star A) (seg l (f + 1 + i) t)) := by
   cases acc A (seg l f (f + 1 + i)) with
   | false => rfl
   | true =>
    by_cases hc : f + 1 + i = t
    ·rw [hc, acc_star_nil A l t ht]; simp
    ·rw [if_neg (show ¬ (((f + 1 + i : Nat) : Int) == (t : Int)) = true by simp; omega)]; simp
  rw [e]
  simp only [Option.bind_some]
  cases acc A (seg l f (f + 1 + i)) && acc (.star A) (seg l (f + 1 + i) t) with
  | true => simp
  | false =>
   simp only [Bool.false_eq_true, if_false, Bool.false_or]
   rw [yr (n := ((f + 1 + i : Nat) : Int) + 1) (by omega) (by omega), show (((f + 1 + i : Nat)) : Int) + 1 = ((f + 1 + (i + 1) : Nat) : Int) by omega]
   have := ih (i + 1) kf (by omega) (by omega)
   rw [show (k : Int) = (k : Int) from rfl] at this
   exact this
theorem p_cell {p : List Nd} {K : List (List Int)} {l : List Int} {tb : List (List Bool)} {fl : List Bool} (hp : p.length ≤ 1000) (hset : ∀ u ∈ p, u.2.length ≤ 1000 ∧ u.2.length % 2 = 0) (hl : l.length ≤ 1000) (hK : Kids p K p.length) {k : Nat} (hk : k < p.length) (htb : TfV l (trs p K) k tb) {f t : Nat} (hV : FlatV l (getT (trs p K) (k : Int)) f t fl) (hf : f ≤ t) (ht : t ≤ l.length) :
  z0t.f p tb fl l (k : Int) p[k].1 p[k].2 (f : Int) (t : Int) = some (acc (getT (trs p K) (k : Int)) (seg l f t)) := by
 obtain ⟨ks, hks, hko⟩ := hK.2 k hk hk
 obtain ⟨k0, k1, k2, k3⟩ := hko
 unfold z0t.f
 have hsk := hset _ (List.getElem_mem hk)
 have hw : IntKind.i64.wrap ((k : Int) - 1) = (k : Int) - 1 := yr (by omega) (by omega)
 have leaf : ∀ h0 : ar p[k].1 = 0, getT (trs p K) (k : Int) = mkT p[k] [] := fun h0 => by
  have := trs_at hK hk hks (by rw [k0 h0]; simp)
  rw [k0 h0] at this
  exact this
 have one : ∀ h0 : ar p[k].1 = 1, 1 ≤ k ∧ getT (trs p K) (k : Int) = mkT p[k] [getT (trs p K) ((k - 1 : Nat) : Int)] ∧ ∃ ra, tb[k - 1]? = some ra ∧ FlatA l (getT (trs p K) ((k - 1 : Nat) : Int)) ra ∧ rd? tb ((k : Int) - 1) = some ra := fun h0 => by
  obtain ⟨e1, g1⟩ := k1 h0
  have e2 : ((k : Int) - 1) = ((k - 1 : Nat) : Int) := by omega
  rw [e2] at e1 ⊢
  have ht' := trs_at hK hk hks (by rw [e1]; intro c hc; simp at hc; omega)
  obtain ⟨ra, ha1, ha2⟩ := htb (k - 1) (by omega)
  rw [e1] at ht'
  exact ⟨g1, ht', ra, ha1, ha2, rd?_get' ha1⟩
 have two : ∀ h0 : ar p[k].1 = 2, ∃ g : Nat, z0s.f p (k : Int) = some (g : Int) ∧ getT (trs p K) (k : Int) = mkT p[k] [getT (trs p K) (g : Int), getT (trs p K) ((k - 1 : Nat) : Int)] ∧ ∃ ra rb, rd? tb (g : Int) = some ra ∧ FlatA l (getT (trs p K) (g : Int)) ra ∧ rd? tb ((k : Int) - 1) = some rb ∧ FlatA l (getT (trs p K) ((k - 1 : Nat) : Int)) rb := fun h0 => by
  obtain ⟨g, e1, g0, g1, g2⟩ := k2 h0
  obtain ⟨g, rfl⟩ := Int.eq_ofNat_of_zero_le g0
  have e2 : ((k : Int) - 1) = ((k - 1 : Nat) : Int) := by omega
  rw [e2] at e1 ⊢
  have ht' := trs_at hK hk hks (by rw [e1]; intro c hc; simp at hc; omega)
  obtain ⟨ra, ha1, ha2⟩ := htb g (by omega)
  obtain ⟨rb, hb1, hb2⟩ := htb (k - 1) (by omega)
  rw [e1] at ht'
  exact ⟨g, g2, ht', ra, rb, rd?_get' ha1, ha2, rd?_get' hb1, hb2⟩
 rw [hw]
 rcases ar_cases k3 with h | h | h | h | h | h | h
 ·rw [leaf (by rw [h]; rfl)]
  simp only [h, mkT, if_true, beq_self_eq_true, Option.bind_some]
  rw [acc_nil_seg l f t hf ht]
  congr 1
  rw [Bool.eq_iff_iff]
  simp
  omega
 ·have hm : mkT p[k] [] = .set p[k].2 := by unfold mkT; rw [if_neg (by omega), if_pos h]
  rw [leaf (by rw [h]; rfl), hm, acc_set_seg _ l f t hf ht]
  simp only [h]
  have c1 : ((2 : Int) == 1) = false := by decide
  have c2 : ((2 : Int) == 2) = true := by decide
  simp only [c1, c2, Bool.false_eq_true, if_false, if_true]
  rw [yw f (by omega)]
  by_cases hft : t = f + 1
  ·subst hft
   rw [if_pos (by simp), rd?_at (show f < l.length by omega)]
   simp only [Option.bind_some]
   rw [p_specIn _ _ (by omega) hsk.2]
   simp
  ·rw [if_neg (by simp; omega), dif_neg hft]
   rfl
 ·obtain ⟨g, e1, e2, ra, rb, a1, a2, b1, b2⟩ := two (by rw [h]; rfl)
  have hm : mkT p[k] [getT (trs p K) (g : Int), getT (trs p K) ((k - 1 : Nat) : Int)] = .cat (getT (trs p K) (g : Int)) (getT (trs p K) ((k - 1 : Nat) : Int)) := by unfold mkT; simp [h]
  rw [e2, hm, acc_cat_seg _ _ l f t hf ht, e1]
  have hl2 := p_cellCat hl a2 b2 hf ht (t - f + 1) 0 (((t : Int) - (f : Int)).toNat + 2) (by omega) (by omega)
  simp only [Nat.add_zero] at hl2
  simp only [h]
  have c1 : ((3 : Int) == 1) = false := by decide
  have c2 : ((3 : Int) == 2) = false := by decide
  have c4 : ((3 : Int) == 4) = false := by decide
  have c5 : ((3 : Int) == 5) = false := by decide
  have c7 : ((3 : Int) == 7) = false := by decide
  have c6 : ((3 : Int) == 6) = false := by decide
  simp only [c1, c2, c4, c5, c6, c7, Bool.false_eq_true, if_false, Option.bind_some, a1, b1]
  rw [hl2, List.range_eq_range']
  simp only [Option.bind_some]
  cases (List.range' 0 (t - f + 1)).any fun i => acc (getT (trs p K) (g : Int)) (seg l f (f + i)) && acc (getT (trs p K) ((k - 1 : Nat) : Int)) (seg l (f + i) t) <;> rfl
 ·obtain ⟨g, e1, e2, ra, rb, a1, a2, b1, b2⟩ := two (by rw [h]; rfl)
  have hm : mkT p[k] [getT (trs p K) (g : Int), getT (trs p K) ((k - 1 : Nat) : Int)] = .or (getT (trs p K) (g : Int)) (getT (trs p K) ((k - 1 : Nat) : Int)) := by unfold mkT; simp [h]
  rw [e2, hm, e1]
  simp only [h]
  have c1 : ((4 : Int) == 1) = false := by decide
  have c2 : ((4 : Int) == 2) = false := by decide
  have c4 : ((4 : Int) == 4) = true := by decide
  have c7 : ((4 : Int) == 7) = false := by decide
  have c6 : ((4 : Int) == 6) = false := by decide
  simp only [c1, c2, c4, c6, c7, Bool.false_eq_true, if_false, if_true, Option.bind_some, a1, b1, a2.rd hl hf ht, b2.rd hl hf ht]
  show _ = some (acc _ _ || acc _ _)
  cases acc (getT (trs p K) (g : Int)) (seg l f t) <;> rfl
 ·obtain ⟨g, e1, e2, ra, rb, a1, a2, b1, b2⟩ := two (by rw [h]; rfl)
  have hm : mkT p[k] [getT (trs p K) (g : Int), getT (trs p K) ((k - 1 : Nat) : Int)] = .and (getT (trs p K) (g : Int)) (getT (trs p K) ((k - 1 : Nat) : Int)) := by unfold mkT; simp [h]
  rw [e2, hm, e1]
  simp only [h]
  have c1 : ((5 : Int) == 1) = false := by decide
  have c2 : ((5 : Int) == 2) = false := by decide
  have c4 : ((5 : Int) == 4) = false := by decide
  have c5 : ((5 : Int) == 5) = true := by decide
  have c7 : ((5 : Int) == 7) = false := by decide
  have c6 : ((5 : Int) == 6) = false := by decide
  simp only [c1, c2, c4, c5, c6, c7, Bool.false_eq_true, if_false, if_true, Option.bind_some, a1, b1, a2.rd hl hf ht, b2.rd hl hf ht]
  show _ = some (acc _ _ && acc _ _)
  cases acc (getT (trs p K) (g : Int)) (seg l f t) <;> rfl
 ·obtain ⟨g1, e2, ra, a1, a2, a3⟩ := one (by rw [h]; rfl)
  have hm : mkT p[k] [getT (trs p K) ((k - 1 : Nat) : Int)] = .star (getT (trs p K) ((k - 1 : Nat) : Int)) := by unfold mkT; simp [h]
  rw [hm] at e2
  rw [e2] at hV ⊢
  rw [acc_star_seg _ l f t hf ht]
  have hl2 := p_cellStar (K := .nil) hl g1 (by omega) a1 a2 hV hf ht (t - f) 0 (((t : Int) - (((f + 1 : Nat)) : Int)).toNat + 2) (by omega) (by omega)
  simp only [Nat.add_zero] at hl2
  simp only [h]
  have c1 : ((6 : Int) == 1) = false := by decide
  have c2 : ((6 : Int) == 2) = false := by decide
  have c7 : ((6 : Int) == 7) = false := by decide
  have c6 : ((6 : Int) == 6) = true := by decide
  simp only [c1, c2, c6, c7, Bool.false_eq_true, if_false, if_true]
  by_cases hft : f = t
  ·subst hft
   rw [if_pos (by simp)]
   simp
  ·rw [if_neg (by simp; omega), yw f (by omega), hl2, List.range_eq_range']
   have : decide (f = t) = false := by simpa using hft
   rw [this, Bool.false_or]
   simp only [Option.bind_some]
   cases (List.range' 0 (t - f)).any fun i => acc (getT (trs p K) ((k - 1 : Nat) : Int)) (seg l f (f + 1 + i)) && acc (.star (getT (trs p K) ((k - 1 : Nat) : Int))) (seg l (f + 1 + i) t) <;> rfl
 ·obtain ⟨g1, e2, ra, a1, a2, a3⟩ := one (by rw [h]; rfl)
  have hm : mkT p[k] [getT (trs p K) ((k - 1 : Nat) : Int)] = .not (getT (trs p K) ((k - 1 : Nat) : Int)) := by unfold mkT; simp [h]
  rw [e2, hm]
  simp only [h]
  have c1 : ((7 : Int) == 1) = false := by decide
  have c2 : ((7 : Int) == 2) = false := by decide
  have c7 : ((7 : Int) == 7) = true := by decide
  simp only [c1, c2, c7, Bool.false_eq_true, if_false, if_true, Option.bind_some, a3, a2.rd hl hf ht]
  rfl
theorem FlatV.last {l : List Int} {T : RT} {f : Nat} {fl : List Bool} (h : FlatV l T f (l.length + 1) fl) : ∀ g, g + 1 = f → FlatV l T g g fl := fun g hg =>
 ⟨h.1, fun r t h1 h2 ho => h.2 r t h1 h2 (by omega)⟩
theorem FlatV.all {l : List Int} {T : RT} {fl : List Bool} (h : FlatV l T 0 (l.length + 1) fl) : FlatA l T fl :=
 ⟨h.1, fun r t h1 h2 => h.2 r t h1 h2 (by omega)⟩
theorem p_t3 {p : List Nd} {K : List (List Int)} {l : List Int} {tb : List (List Bool)} (hp : p.length ≤ 1000) (hset : ∀ u ∈ p, u.2.length ≤ 1000 ∧ u.2.length % 2 = 0) (hl : l.length ≤ 1000) (hK : Kids p K p.length) {c : Nat} (hk : c < p.length) (htb : TfV l (trs p K) c tb) {f : Nat} (hf : f ≤ l.length) : ∀ (m t k : Nat) (fl : List Bool), f ≤ t → t + m = l.length + 1 → m < k → FlatV l (getT (trs p K) (c : Int)) f t fl → ∃ fl', z0u.l3 p l tb (c : Int) p[c] (f : Int) k fl (t : Int) = some fl' ∧ FlatV l (getT (trs p K) (c : Int)) f (l.length + 1) fl' := by
 intro m
 induction m with
 | zero =>
  intro t k fl h1 h2 hk2 hV
  obtain ⟨k, rfl⟩ := Nat.exists_eq_succ_of_ne_zero (show k ≠ 0 by omega)
  rw [z0u.l3, yw l.length (by omega), if_neg (by simp; omega)]
  obtain rfl : t = l.length + 1 := by omega
  exact ⟨fl, rfl, hV⟩
 | succ m ih =>
  intro t k fl h1 h2 hk2 hV
  obtain ⟨k, rfl⟩ := Nat.exists_eq_succ_of_ne_zero (show k ≠ 0 by omega)
  have htl : t ≤ l.length := by omega
  have q2 := p_cell hp hset hl hK hk htb hV h1 htl
  have hi : f * (l.length + 1) + t < fl.length := by rw [hV.1]; exact ix_lt hf htl
  have c1 : decide ((t : Int) < IntKind.i64.wrap ((l.length : Int) + 1)) = true := by rw [yw l.length (by omega)]; simp; omega
  rw [z0u.l3, if_pos c1, q2]
  simp only [Option.bind_some]
  rw [ix_flat hl hf htl, rd?_at hi]
  simp only [Option.bind_some]
  rw [st?_at _ hi]
  simp only [Option.bind_some]
  rw [yw t (by omega)]
  refine ih (t + 1) k _ (by omega) (by omega) (by omega) ⟨by simpa using hV.1, fun r t' g1 g2 g3 => ?_⟩
  by_cases he : f * (l.length + 1) + t = r * (l.length + 1) + t'
  ·obtain ⟨rfl, rfl⟩ := ix_inj htl g2 he
   rw [List.getElem?_set_self hi]
  ·rw [List.getElem?_set_ne he]
   refine hV.2 r t' g1 g2 ?_
   rcases g3 with g3 | ⟨g3, g4⟩
   ·exact .inl g3
   ·subst g3
    exact .inr ⟨rfl, by have : t ≠ t' := fun h => he (by rw [h]); omega⟩
theorem p_t2 {p : List Nd} {K : List (List Int)} {l : List Int} {tb : List (List Bool)} (hp : p.length ≤ 1000) (hset : ∀ u ∈ p, u.2.length ≤ 1000 ∧ u.2.length % 2 = 0) (hl : l.length ≤ 1000) (hK : Kids p K p.length) {c : Nat} (hk : c < p.length) (htb : TfV l (trs p K) c tb) : ∀ (q k : Nat) (fl : List Bool), q ≤ l.length + 1 → q < k → FlatV l (getT (trs p K) (c : Int)) q (l.length + 1) fl → ∃ fl', z0u.l2 p l tb (c : Int) p[c] k fl ((q : Int) - 1) = some fl' ∧ FlatA l (getT (trs p K) (c : Int)) fl' := by
 intro q
 induction q with
 | zero =>
  intro k fl h1 hk2 hV
  obtain ⟨k, rfl⟩ := Nat.exists_eq_succ_of_ne_zero (show k ≠ 0 by omega)
  rw [z0u.l2, if_neg (by decide)]
  exact ⟨fl, rfl, hV.all⟩
 | succ q ih =>
  intro k fl h1 hk2 hV
  obtain ⟨k, rfl⟩ := Nat.exists_eq_succ_of_ne_zero (show k ≠ 0 by omega)
  rw [show ((q + 1 : Nat) : Int) - 1 = (q : Int) by omega, z0u.l2, if_pos (by simp), yw l.length (by omega)]
  obtain ⟨fl', e1, e2⟩ := p_t3 hp hset hl hK hk htb (f := q) (by omega) (l.length + 1 - q) q ((((l.length + 1 : Nat) : Int) - (q : Int)).toNat + 2) fl (Nat.le_refl _) (by omega) (by omega) (hV.last q rfl)
  rw [e1]
  simp only [Option.bind_some]
  rw [yr (by omega) (by omega)]
  exact ih k fl' (by omega) (by omega) e2
theorem p_t1 {p : List Nd} {K : List (List Int)} {l : List Int} (hp : p.length ≤ 1000) (hset : ∀ u ∈ p, u.2.length ≤ 1000 ∧ u.2.length % 2 = 0) (hl : l.length ≤ 1000) (hK : Kids p K p.length) : ∀ (m k : Nat) (tb : List (List Bool)), tb.length + m = p.length → m < k → TfV l (trs p K) tb.length tb → ∃ tb', z0u.l1 p l k tb (tb.length : Int) = some tb' ∧ tb'.length = p.length ∧ TfV l (trs p K) p.length tb' := by
 intro m
 induction m with
 | zero =>
  intro k tb h1 hk htb
  obtain ⟨k, rfl⟩ := Nat.exists_eq_succ_of_ne_zero (show k ≠ 0 by omega)
  rw [z0u.l1, if_neg (by simp; omega)]
  exact ⟨tb, rfl, by omega, by rw [← show tb.length = p.length by omega]; exact htb⟩
 | succ m ih =>
  intro k tb h1 hk htb
  obtain ⟨k, rfl⟩ := Nat.exists_eq_succ_of_ne_zero (show k ≠ 0 by omega)
  have hc : tb.length < p.length := by omega
  have hw : IntKind.i64.wrap (((l.length + 1 : Nat) : Int) * ((l.length + 1 : Nat) : Int)) = (((l.length + 1) * (l.length + 1) : Nat) : Int) := by
   have : (l.length + 1) * (l.length + 1) ≤ 1001 * 1001 := Nat.mul_le_mul (by omega) (by omega)
   rw [← Int.natCast_mul]
   exact yr (by omega) (by omega)
  have hb : (l.length + 1) * (l.length + 1) ≤ 1001 * 1001 := Nat.mul_le_mul (by omega) (by omega)
  rw [z0u.l1, if_pos (by simp; omega), rd?_at hc]
  simp only [Option.bind_some]
  rw [yw l.length (by omega), hw, mk?_at (by omega)]
  simp only [Option.bind_some]
  rw [yr (n := ((l.length + 1 : Nat) : Int) - 1) (by omega) (by omega)]
  obtain ⟨fl', e1, e2⟩ := p_t2 hp hset hl hK hc htb (l.length + 1) ((((l.length + 1 : Nat) : Int) - 1 - 0).toNat + 2) (List.replicate ((l.length + 1) * (l.length + 1)) false) (Nat.le_refl _) (by omega) ⟨by simp, fun f t h1 h2 h3 => by omega⟩
  rw [e1]
  simp only [Option.bind_some]
  rw [app?_at (by simp; omega)]
  simp only [Option.bind_some]
  rw [yw tb.length (by omega)]
  have := ih k (tb ++ [fl']) (by simp; omega) (by omega) (by
   rw [List.length_append, List.length_singleton]
   intro c hct'
   by_cases hct : c < tb.length
   ·obtain ⟨fl, g1, g2⟩ := htb c hct
    exact ⟨fl, by rw [List.getElem?_append_left hct]; exact g1, g2⟩
   ·obtain rfl : c = tb.length := by omega
    exact ⟨fl', by rw [List.getElem?_append_right (Nat.le_refl _)]; simp, e2⟩)
  rw [List.length_append, List.length_singleton] at this
  exact this
theorem p_table {p : List Nd} {K : List (List Int)} {l : List Int} (hp : p.length ≤ 1000) (hset : ∀ u ∈ p, u.2.length ≤ 1000 ∧ u.2.length % 2 = 0) (hl : l.length ≤ 1000) (hK : Kids p K p.length) : ∃ tb, z0u.f p l = some tb ∧ tb.length = p.length ∧ TfV l (trs p K) p.length tb := by
 obtain ⟨tb, e1, e2, e3⟩ := p_t1 hp hset hl hK p.length (((p.length : Int) - 0).toNat + 2) [] (by simp) (by omega) (fun c hc => by simp at hc)
 refine ⟨tb, ?_, e2, e3⟩
 unfold z0u.f
 rw [show (([] : List (List Bool)).length : Int) = 0 from rfl] at e1
 rw [e1]
 rfl
def longF (g : Nat → Bool) (f : Nat) : Nat → Option Nat
 | 0 => none
 | m + 1 => if g (f + m) = true then some (f + m) else longF g f m
def findF (g : Nat → Nat → Bool) : Nat → Nat → Option (Nat × Nat)
 | 0, _ => none
 | m + 1, f => match longF (g f) f (m + 1) with
  | some t => some (f, t)
  | none => findF g m (f + 1)
theorem longF_bd {g : Nat → Bool} {f : Nat} : ∀ {m t : Nat}, longF g f m = some t → f ≤ t ∧ t < f + m
 | 0, t, h => by cases h
 | m + 1, t, h => by
  unfold longF at h
  split at h
  ·injection h with h
   omega
  ·have := longF_bd h
   omega
theorem findF_bd {g : Nat → Nat → Bool} : ∀ {m f a t : Nat}, findF g m f = some (a, t) → f ≤ a ∧ a ≤ t ∧ t < f + m
 | 0, f, a, t, h => by cases h
 | m + 1, f, a, t, h => by
  unfold findF at h
  split at h
  ·rename_i t' h'
   injection h with h
   injection h with h1 h2
   subst h1 h2
   have := longF_bd h'
   omega
  ·have := findF_bd h
   omega
theorem longF_sh (g g' : Nat → Bool) (s : Nat) (f : Nat) : ∀ (m : Nat), (∀ t, f ≤ t → t < f + m → g' t = g (s + t)) → longF g (s + f) m = (longF g' f m).map (s + ·)
 | 0, _ => rfl
 | m + 1, h => by
  unfold longF
  rw [h (f + m) (by omega) (by omega), Nat.add_assoc]
  split
  ·rfl
  ·exact longF_sh g g' s f m (fun t h1 h2 => h t h1 (by omega))
theorem findF_sh (g g' : Nat → Nat → Bool) (s : Nat) : ∀ (m f : Nat), (∀ a t, f ≤ a → a ≤ t → t < f + m → g' a t = g (s + a) (s + t)) → findF g m (s + f) = (findF g' m f).map fun o => (s + o.1, s + o.2)
 | 0, _, _ => rfl
 | m + 1, f, h => by
  unfold findF
  rw [longF_sh (g (s + f)) (g' f) s f (m + 1) (fun t h1 h2 => h f t (Nat.le_refl _) h1 h2)]
  cases longF (g' f) f (m + 1) with
  | some t => rfl
  | none => exact findF_sh g g' s m (f + 1) (fun a t h1 h2 h3 => h a t (by omega) h2 (by omega))
theorem seg_sh (l : List Int) (s f t : Nat) : seg (l.drop s) f t = seg l (s + f) (s + t) := by
 unfold seg
 rw [List.take_drop, List.drop_drop]
/-- What a pattern's last node matches between two places. -/
def gT (T : RT) (l : List Int) (f t : Nat) : Bool := acc T (seg l f t)
theorem p_longest {p : List Nd} {K : List (List Int)} {l : List Int} {tb : List (List (List Bool))} {T : RT} {rows : List (List Bool)} (hp : 1 ≤ p.length ∧ p.length ≤ 1000) (hl : l.length ≤ 1000) (h1 : tb[p.length - 1]? = some rows) (h2 : RowsA l T rows) (f : Nat) : ∀ (m k : Nat), f + m ≤ l.length + 1 → m < k → z0g.l1 p K l tb (f : Int) k ((f + m : Nat) - 1 : Int) = some (match longF (gT T l f) f m with | some t => .ret (t : Int) | none => .go ()) := by
 intro m
 induction m with
 | zero =>
  intro k hm hk
  obtain ⟨k, rfl⟩ := Nat.exists_eq_succ_of_ne_zero (show k ≠ 0 by omega)
  rw [z0g.l1, if_neg (by simp; omega)]
  rfl
 | succ m ih =>
  intro k hm hk
  obtain ⟨k, rfl⟩ := Nat.exists_eq_succ_of_ne_zero (show k ≠ 0 by omega)
  rw [show (((f + (m + 1) : Nat)) : Int) - 1 = ((f + m : Nat) : Int) by omega, z0g.l1, if_pos (by simp; omega), yr (n := (p.length : Int) - 1) (by omega) (by omega), show (p.length : Int) - 1 = ((p.length - 1 : Nat) : Int) by omega, h2.has h1 (by omega) (by omega)]
  simp only [Option.bind_some]
  unfold longF
  show (if gT T l f (f + m) = true then _ else _) = _
  by_cases hg : gT T l f (f + m) = true
  ·rw [if_pos hg, if_pos hg]
  ·rw [if_neg hg, if_neg hg, yr (by omega) (by omega)]
   exact ih k (by omega) (by omega)
theorem p_find {p : List Nd} {K : List (List Int)} {l : List Int} {tb : List (List (List Bool))} {T : RT} {rows : List (List Bool)} (hp : 1 ≤ p.length ∧ p.length ≤ 1000) (hl : l.length ≤ 1000) (h1 : tb[p.length - 1]? = some rows) (h2 : RowsA l T rows) (s : Nat) (hs : s ≤ l.length + 1) : z0h.f p K l tb (s : Int) (l.length : Int) = some (match findF (gT T l) (l.length + 1 - s) s with | some (a, t) => ((a : Int), (t : Int), true) | none => (0, 0, false)) := by
 have key : ∀ (m f k : Nat), f + m = l.length + 1 → m < k → z0h.l1 p K l tb (l.length : Int) k (f : Int) = some (match findF (gT T l) m f with | some (a, t) => .ret ((a : Int), (t : Int), true) | none => .go ()) := by
  intro m
  induction m with
  | zero =>
   intro f k hm hk
   obtain ⟨k, rfl⟩ := Nat.exists_eq_succ_of_ne_zero (show k ≠ 0 by omega)
   rw [z0h.l1, if_neg (by simp; omega)]
   rfl
  | succ m ih =>
   intro f k hm hk
   obtain ⟨k, rfl⟩ := Nat.exists_eq_succ_of_ne_zero (show k ≠ 0 by omega)
   rw [z0h.l1, if_pos (by simp; omega)]
   unfold z0g.f
   have := p_longest (K := K) hp hl h1 h2 f (m + 1) (((l.length : Int) - (f : Int)).toNat + 2) (by omega) (by omega)
   rw [show (((f + (m + 1) : Nat)) : Int) - 1 = (l.length : Int) by omega] at this
   rw [this]
   simp only [Option.bind_some]
   unfold findF
   cases longF (gT T l f) f (m + 1) with
   | some t =>
    simp only [Option.bind_some]
    rw [if_pos (by simp)]
   | none =>
    simp only [Option.bind_some]
    rw [if_neg (by decide), yw f (by omega)]
    exact ih (f + 1) k (by omega) (by omega)
 unfold z0h.f
 rw [key (l.length + 1 - s) s _ (by omega) (by omega)]
 cases findF (gT T l) (l.length + 1 - s) s with
 | some o => rfl
 | none => rfl
theorem p_l7 {p : List Nd} {K : List (List Int)} {l : List Int} (hp : 1 ≤ p.length ∧ p.length ≤ 1000) (hset : ∀ u ∈ p, u.2.length ≤ 1000 ∧ u.2.length % 2 = 0) (hl : l.length ≤ 1000) (hK : Kids p K p.length) : z0v.f p l = some (match findF (gT (getT (trs p K) ((p.length - 1 : Nat) : Int)) l) (l.length + 1) 0 with | some (a, t) => ((a : Int), (t : Int), true) | none => (0, 0, false)) := by
 obtain ⟨tb, e1, e2, e3⟩ := p_table hp.2 hset hl hK
 obtain ⟨fl, h1, h2⟩ := e3 (p.length - 1) (by omega)
 generalize hT : getT (trs p K) ((p.length - 1 : Nat) : Int) = T at h2 ⊢
 have key2 : ∀ (f m k : Nat), f + m ≤ l.length + 1 → m < k → z0v.l2 l fl (f : Int) k ((f + m : Nat) - 1 : Int) = some (match longF (gT T l f) f m with | some t => .ret (.ret (.ret ((f : Int), (t : Int), true))) | none => .go ()) := by
  intro f m
  induction m with
  | zero =>
   intro k hm hk
   obtain ⟨k, rfl⟩ := Nat.exists_eq_succ_of_ne_zero (show k ≠ 0 by omega)
   rw [z0v.l2, if_neg (by simp; omega)]
   rfl
  | succ m ih =>
   intro k hm hk
   obtain ⟨k, rfl⟩ := Nat.exists_eq_succ_of_ne_zero (show k ≠ 0 by omega)
   rw [show (((f + (m + 1) : Nat)) : Int) - 1 = ((f + m : Nat) : Int) by omega, z0v.l2, if_pos (by simp; omega), h2.rd hl (by omega) (by omega)]
   simp only [Option.bind_some]
   unfold longF
   show (if gT T l f (f + m) = true then _ else _) = _
   by_cases hg : gT T l f (f + m) = true
   ·rw [if_pos hg, if_pos hg]
   ·rw [if_neg hg, if_neg hg, yr (by omega) (by omega)]
    exact ih k (by omega) (by omega)
 have key : ∀ (m f k : Nat), f + m = l.length + 1 → m < k → z0v.l1 l fl k (f : Int) = some (match findF (gT T l) m f with | some (a, t) => .ret ((a : Int), (t : Int), true) | none => .go ()) := by
  intro m
  induction m with
  | zero =>
   intro f k hm hk
   obtain ⟨k, rfl⟩ := Nat.exists_eq_succ_of_ne_zero (show k ≠ 0 by omega)
   rw [z0v.l1, yw l.length (by omega), if_neg (by simp; omega)]
   rfl
  | succ m ih =>
   intro f k hm hk
   obtain ⟨k, rfl⟩ := Nat.exists_eq_succ_of_ne_zero (show k ≠ 0 by omega)
   rw [z0v.l1, yw l.length (by omega), if_pos (by simp; omega), yr (n := ((l.length + 1 : Nat) : Int) - 1) (by omega) (by omega)]
   have := key2 f (m + 1) ((((l.length + 1 : Nat) : Int) - 1 - (f : Int)).toNat + 2) (by omega) (by omega)
   rw [show (((f + (m + 1) : Nat)) : Int) - 1 = ((l.length + 1 : Nat) : Int) - 1 by omega] at this
   rw [this]
   simp only [Option.bind_some]
   unfold findF
   cases longF (gT T l f) f (m + 1) with
   | some t => rfl
   | none =>
    simp only [Option.bind_some]
    rw [yw f (by omega)]
    exact ih (f + 1) k (by omega) (by omega)
 unfold z0v.f
 rw [e1]
 simp only [Option.bind_some]
 rw [yr (n := (p.length : Int) - 1) (by omega) (by omega), show (p.length : Int) - 1 = ((p.length - 1 : Nat) : Int) by omega, rd?_get' h1]
 simp only [Option.bind_some]
 have := key (l.length + 1) 0 ((((l.length + 1 : Nat) : Int) - 0).toNat + 2) (by omega) (by omega)
 rw [yw l.length (by omega)]
 rw [show ((0 : Nat) : Int) = 0 from rfl] at this
 rw [this]
 cases findF (gT T l) (l.length + 1) 0 with
 | some o => rfl
 | none => rfl
/-- All places, one behind the other. -/
def allF (g : Nat → Nat → Bool) (N : Nat) : Nat → Nat → Nat → List (Int × Int × Int)
 | 0, _, _ => []
 | n + 1, s, i => match findF g (N + 1 - s) s with
  | some (a, t) => ((i : Int), (a : Int), (t : Int)) :: allF g N n (if a = t then t + 1 else t) (i + 1)
  | none => []
/-- Each place begins where the one ahead of it ends, or behind. -/
def Chain (N : Nat) : Nat → List (Int × Int × Int) → Prop
 | _, [] => True
 | s, u :: us => ∃ a t : Nat, u.2 = ((a : Int), (t : Int)) ∧ s ≤ a ∧ a ≤ t ∧ t ≤ N ∧ Chain N t us
theorem Chain.more {N : Nat} : ∀ {us : List (Int × Int × Int)} {s s' : Nat}, s' ≤ s → Chain N s us → Chain N s' us
 | [], _, _, _, _ => trivial
 | u :: us, _, _, h, ⟨a, t, h1, h2, h3, h4, h5⟩ => ⟨a, t, h1, by omega, h3, h4, h5⟩
theorem allF_chain (g : Nat → Nat → Bool) (N : Nat) : ∀ (n s i : Nat), s ≤ N + 1 → Chain N s (allF g N n s i) ∧ (allF g N n s i).length ≤ n
 | 0, _, _, _ => ⟨trivial, Nat.le_refl _⟩
 | n + 1, s, i, hs => by
  unfold allF
  cases h : findF g (N + 1 - s) s with
  | none => exact ⟨trivial, Nat.zero_le _⟩
  | some o =>
   obtain ⟨a, t⟩ := o
   have hb := findF_bd h
   have := allF_chain g N n (if a = t then t + 1 else t) (i + 1) (by split <;> omega)
   exact ⟨⟨a, t, rfl, hb.1, hb.2.1, by omega, this.1.more (by split <;> omega)⟩, Nat.succ_le_succ this.2⟩
theorem p_findAll {p : List Nd} {K : List (List Int)} {q : List Int} {l : List Int} (hp : 1 ≤ p.length ∧ p.length ≤ 1000) (hset : ∀ u ∈ p, u.2.length ≤ 1000) (hl : l.length ≤ 1000) (h : pileR p 0 [] [] = some (K, q)) : z0i.f p l = some (allF (gT (getT (trs p K) ((p.length - 1 : Nat) : Int)) l) l.length (l.length + 1) 0 0) := by
 obtain ⟨hK, tb, e1, e2, e3⟩ := p_match hp.2 hset hl h
 obtain ⟨rows, h1, h2⟩ := e3 (p.length - 1) (by omega)
 generalize getT (trs p K) ((p.length - 1 : Nat) : Int) = T at h2 ⊢
 have key : ∀ (n s k : Nat) (out : List (Int × Int × Int)), s + n = l.length + 1 ∨ s + n ≥ l.length + 1 ∧ s ≤ l.length + 1 → out.length + n ≤ 2000 → n < k → z0i.l1 l (p, K, l, tb) k out (s : Int) = some (out ++ allF (gT T l) l.length n s out.length) := by
  intro n
  induction n with
  | zero =>
   intro s k out hs ho hk
   obtain ⟨k, rfl⟩ := Nat.exists_eq_succ_of_ne_zero (show k ≠ 0 by omega)
   rw [z0i.l1, p_find hp hl h1 h2 s (by omega)]
   rw [show l.length + 1 - s = 0 by omega]
   simp [findF, allF]
  | succ n ih =>
   intro s k out hs ho hk
   obtain ⟨k, rfl⟩ := Nat.exists_eq_succ_of_ne_zero (show k ≠ 0 by omega)
   rw [z0i.l1, p_find hp hl h1 h2 s (by omega)]
   simp only [Option.bind_some]
   unfold allF
   cases hf : findF (gT T l) (l.length + 1 - s) s with
   | none => simp
   | some o =>
    obtain ⟨a, t⟩ := o
    have hb := findF_bd hf
    simp only [Bool.not_true, Bool.false_eq_true, if_false]
    rw [app?_at (by simp; omega)]
    simp only [Option.bind_some]
    by_cases hat : a = t
    ·rw [if_pos (by simp; omega), if_pos hat, yw t (by omega)]
     have := ih (t + 1) k (out ++ [((out.length : Int), (a : Int), (t : Int))]) (by omega) (by simp; omega) (by omega)
     rw [List.length_append, List.length_singleton, List.append_assoc] at this
     exact this
    ·rw [if_neg (by simp; omega), if_neg hat]
     have := ih t k (out ++ [((out.length : Int), (a : Int), (t : Int))]) (by omega) (by simp; omega) (by omega)
     rw [List.length_append, List.length_singleton, List.append_assoc] at this
     exact this
 unfold z0i.f
 rw [e1]
 simp only [Option.bind_some]
 have := key (l.length + 1) 0 (l.length + 3) [] (by omega) (by simp; omega) (by omega)
 exact this
theorem p_specAll_l {p : List Nd} {K : List (List Int)} {l : List Int} (hp : 1 ≤ p.length ∧ p.length ≤ 1000) (hset : ∀ u ∈ p, u.2.length ≤ 1000 ∧ u.2.length % 2 = 0) (hl : l.length ≤ 1000) (hK : Kids p K p.length) : z0w.l1 p l (((l.length : Int) - 0).toNat + 2) [] 0 = some (allF (gT (getT (trs p K) ((p.length - 1 : Nat) : Int)) l) l.length (l.length + 1) 0 0) := by
 have hfind : ∀ s, s ≤ l.length → z0v.f p (l.drop s) = some (match (findF (gT (getT (trs p K) ((p.length - 1 : Nat) : Int)) l) (l.length + 1 - s) s) with | some (a, t) => ((a : Int) - s, (t : Int) - s, true) | none => (0, 0, false)) := by
  intro s hs
  rw [p_l7 hp hset (by simp; omega) hK]
  have := findF_sh (gT (getT (trs p K) ((p.length - 1 : Nat) : Int)) l) (gT (getT (trs p K) ((p.length - 1 : Nat) : Int)) (l.drop s)) s ((l.drop s).length + 1) 0 (fun a t _ _ _ => by unfold gT; rw [seg_sh])
  rw [List.length_drop] at this
  simp only [Nat.add_zero] at this
  rw [show l.length - s + 1 = l.length + 1 - s by omega] at this
  rw [this, List.length_drop, show l.length - s + 1 = l.length + 1 - s by omega]
  cases findF (gT (getT (trs p K) ((p.length - 1 : Nat) : Int)) (l.drop s)) (l.length + 1 - s) 0 with
  | none => rfl
  | some o =>
   show some _ = some (((s + o.1 : Nat) : Int) - s, ((s + o.2 : Nat) : Int) - s, true)
   rw [show ((s + o.1 : Nat) : Int) - s = o.1 by omega, show ((s + o.2 : Nat) : Int) - s = o.2 by omega]
 generalize getT (trs p K) ((p.length - 1 : Nat) : Int) = T at hfind ⊢
 have key : ∀ (n s k : Nat) (out : List (Int × Int × Int)), s + n ≥ l.length + 1 ∧ s ≤ l.length + 1 → out.length + n ≤ 2000 → n < k → z0w.l1 p l k out (s : Int) = some (out ++ allF (gT T l) l.length n s out.length) := by
  intro n
  induction n with
  | zero =>
   intro s k out hs ho hk
   obtain ⟨k, rfl⟩ := Nat.exists_eq_succ_of_ne_zero (show k ≠ 0 by omega)
   rw [z0w.l1, if_neg (by simp; omega)]
   simp [allF]
  | succ n ih =>
   intro s k out hs ho hk
   obtain ⟨k, rfl⟩ := Nat.exists_eq_succ_of_ne_zero (show k ≠ 0 by omega)
   rw [z0w.l1]
   unfold allF
   by_cases hsl : s ≤ l.length
   ·rw [if_pos (by simp; omega), cut?_at hsl (Nat.le_refl _), List.take_length]
    simp only [Option.bind_some]
    rw [hfind s hsl]
    simp only [Option.bind_some]
    cases hf : findF (gT T l) (l.length + 1 - s) s with
    | none => simp
    | some o =>
     obtain ⟨a, t⟩ := o
     have hb := findF_bd hf
     simp only [Bool.not_true, Bool.false_eq_true, if_false]
     rw [app?_at (by simp; omega)]
     simp only [Option.bind_some]
     rw [show (s : Int) + ((a : Int) - s) = a by omega, show (s : Int) + ((t : Int) - s) = t by omega, yr (n := (a : Int)) (by omega) (by omega), yr (n := (t : Int)) (by omega) (by omega)]
     by_cases hat : a = t
     ·rw [if_pos (by simp; omega), if_pos hat, yw t (by omega)]
      have := ih (t + 1) k (out ++ [((out.length : Int), (a : Int), (t : Int))]) (by omega) (by simp; omega) (by omega)
      rw [List.length_append, List.length_singleton, List.append_assoc] at this
      exact this
     ·rw [if_neg (by simp; omega), if_neg hat]
      have := ih t k (out ++ [((out.length : Int), (a : Int), (t : Int))]) (by omega) (by simp; omega) (by omega)
      rw [List.length_append, List.length_singleton, List.append_assoc] at this
      exact this
   ·rw [if_neg (by simp; omega), show l.length + 1 - s = 0 by omega]
    simp [findF]
 exact key (l.length + 1) 0 _ [] (by omega) (by simp; omega) (by omega)
def cutsF (l : List Int) : Nat → List (Int × Int × Int) → List (List Int)
 | s, [] => [l.drop s]
 | s, u :: us => seg l s u.2.1.toNat :: cutsF l u.2.2.toNat us
theorem cutsF_len (l : List Int) : ∀ (us : List (Int × Int × Int)) (s : Nat), (cutsF l s us).length = us.length + 1
 | [], _ => rfl
 | u :: us, s => by simp [cutsF, cutsF_len l us]
theorem cutsF_each (l : List Int) : ∀ (us : List (Int × Int × Int)) (s : Nat), ∀ v ∈ cutsF l s us, v.length ≤ l.length
 | [], s, v, h => by
  simp only [cutsF, List.mem_singleton] at h
  subst h
  simp
 | u :: us, s, v, h => by
  rw [cutsF, List.mem_cons] at h
  rcases h with rfl | h
  ·simp [seg]; omega
  ·exact cutsF_each l us _ v h
theorem p_ownM (x : List Int) (h : x.length ≤ 1000000) : z7.f x = some x := by
 unfold z7.f
 rw [app?_at (by simp; omega)]
 rfl
theorem p_cloneM (x : List Int) (h : x.length ≤ 1000000) : zw.f x = some x := by
 unfold zw.f
 rw [app?_at (by simp; omega)]
 rfl
theorem p_cutI {l : List Int} {N : Nat} (hl : N ≤ l.length) {s : Nat} {u : Int × Int × Int} {us : List (Int × Int × Int)} (h : Chain N s (u :: us)) : cut? l (s : Int) u.2.1 = some (seg l s u.2.1.toNat) ∧ u.2.2 = ((u.2.2.toNat : Nat) : Int) ∧ Chain N u.2.2.toNat us ∧ u.2.2.toNat ≤ N := by
 obtain ⟨a, t, h1, h2, h3, h4, h5⟩ := h
 rw [h1]
 refine ⟨?_, rfl, h5, h4⟩
 rw [cut?_at h2 (by omega)]
 rfl
theorem p_bet {l : List Int} (hl : l.length ≤ 1000) (S : List (Int × Int × Int)) (hS : S.length ≤ 2000) : ∀ (rest pre : List (Int × Int × Int)) (s k : Nat) (out : List (List Int)), S = pre ++ rest → Chain l.length s rest → s ≤ l.length → out.length ≤ pre.length → rest.length < k →
  ∃ (o : List (List Int)) (e : Nat), z0j.l1 l S k out (s : Int) (pre.length : Int) = some (o, (e : Int)) ∧ (∀ b, z0x.l1 l (S, b) k out (s : Int) (pre.length : Int) = some (o, (e : Int))) ∧ e ≤ l.length ∧ o ++ [l.drop e] = out ++ cutsF l s rest := by
 intro rest
 induction rest with
 | nil =>
  intro pre s k out hp hc hs ho hk
  obtain ⟨k, rfl⟩ := Nat.exists_eq_succ_of_ne_zero (show k ≠ 0 by omega)
  subst hp
  refine ⟨out, s, ?_, fun b => ?_, hs, rfl⟩
  ·rw [z0j.l1, if_neg (by simp)]
  ·rw [z0x.l1, if_neg (by simp)]
 | cons u us ih =>
  intro pre s k out hp hc hs ho hk
  obtain ⟨k, rfl⟩ := Nat.exists_eq_succ_of_ne_zero (show k ≠ 0 by omega)
  obtain ⟨h1, h2, h3, h4⟩ := p_cutI (Nat.le_refl _) hc
  have hr : rd? S (pre.length : Int) = some u := by rw [hp]; exact rd_mid pre u us
  have hlen : pre.length < S.length := by rw [hp]; simp
  have hsg : (seg l s u.2.1.toNat).length ≤ 1000000 := by simp [seg]; omega
  obtain ⟨o, e, g1, g2, g3, g4⟩ := ih (pre ++ [u]) u.2.2.toNat k (out ++ [seg l s u.2.1.toNat]) (by rw [hp]; simp) h3 h4 (by simp; omega) (by simp at hk; omega)
  rw [List.length_append, List.length_singleton, ← h2] at g1 g2
  refine ⟨o, e, ?_, fun b => ?_, g3, by rw [g4]; simp [cutsF]⟩
  ·rw [z0j.l1, if_pos (by simp; omega), hr]
   simp only [Option.bind_some]
   rw [h1]
   simp only [Option.bind_some]
   rw [p_cloneM _ hsg]
   simp only [Option.bind_some]
   rw [app?_at (by simp; omega)]
   simp only [Option.bind_some]
   rw [yw pre.length (by omega)]
   exact g1
  ·rw [z0x.l1, if_pos (by simp; omega)]
   simp only []
   rw [hr]
   simp only [Option.bind_some]
   rw [h1]
   simp only [Option.bind_some]
   rw [p_ownM _ hsg]
   simp only [Option.bind_some]
   rw [app?_at (by simp; omega)]
   simp only [Option.bind_some]
   rw [yw pre.length (by omega)]
   exact g2 b
theorem p_findBoth {p : List Nd} {l : List Int} (h : okRe p = true) (hl : l.length ≤ 120) : ∃ S : List (Int × Int × Int), z0i.f p l = some S ∧ z0w.l1 p l (((l.length : Int) - 0).toNat + 2) [] 0 = some S ∧ Chain l.length 0 S ∧ S.length ≤ l.length + 1 := by
 obtain ⟨h1, h2, h3, K, q, h4⟩ := okRe_facts h
 have hset : ∀ u ∈ p, u.2.length ≤ 1000 ∧ u.2.length % 2 = 0 := fun u hu => ⟨by have := h3 u hu; omega, (h3 u hu).2⟩
 have hK := (kids_of p (by omega) p [] [] [] K q rfl rfl ⟨rfl, fun k hk => by simp at hk⟩ h4).1
 have hc := allF_chain (gT (getT (trs p K) ((p.length - 1 : Nat) : Int)) l) l.length (l.length + 1) 0 0 (by omega)
 exact ⟨_, p_findAll ⟨h1, by omega⟩ (fun u hu => (hset u hu).1) (by omega) h4, p_specAll_l ⟨h1, by omega⟩ hset (by omega) hK, hc.1, hc.2⟩
theorem p_between {p : List Nd} {l : List Int} (h : okRe p = true) (hr : l.all okRune = true) (hl : l.length ≤ 120) : ∃ r : List (List Int), z0j.f p l = some r ∧ z0x.f p l = some r ∧ r.length ≤ 122 ∧ ∀ v ∈ r, v.length ≤ 120 := by
 obtain ⟨S, e1, e2, e3, e4⟩ := p_findBoth h hl
 obtain ⟨h1, h2, h3, _⟩ := okRe_facts h
 obtain ⟨o, e, g1, g2, g3, g4⟩ := p_bet (l := l) (by omega) S (by omega) S [] 0 (((S.length : Int) - 0).toNat + 2) [] rfl e3 (by omega) (Nat.le_refl _) (by omega)
 rw [List.nil_append] at g4
 have ho : o.length + 1 = S.length + 1 := by
  have := congrArg List.length g4
  rw [cutsF_len] at this
  simpa using this
 have hbig : p.length ≤ big := by unfold big; omega
 refine ⟨cutsF l 0 S, ?_, ?_, by rw [cutsF_len]; omega, fun v hv => by have := cutsF_each l S 0 v hv; omega⟩
 ·unfold z0j.f
  rw [e1]
  simp only [Option.bind_some]
  rw [show (([] : List (Int × Int × Int)).length : Int) = 0 from rfl, show ((0 : Nat) : Int) = 0 from rfl] at g1
  rw [g1]
  simp only [Option.bind_some]
  rw [cut?_at g3 (Nat.le_refl _), List.take_length]
  simp only [Option.bind_some]
  rw [p_cloneM _ (by simp; omega)]
  simp only [Option.bind_some]
  rw [app?_at (by simp; omega), g4]
  rfl
 ·unfold z0x.f z0w.f z0q.f
  rw [p_specRe p hbig (fun u hu => by have := h3 u hu; unfold big; omega), h]
  simp only [Option.bind_some, if_true]
  rw [p_allRunes l (by unfold big; omega), hr]
  have c1 : decide (l.length ≤ 1000) = true := by simp; omega
  have c2 : decide ((l.length : Int) ≤ 120) = true := by simp; omega
  simp only [Option.bind_some, c1, c2, Bool.and_self, if_true, Bool.not_true, Bool.false_eq_true, if_false]
  rw [e2]
  simp only [Option.bind_some]
  have := g2 true
  rw [show (([] : List (Int × Int × Int)).length : Int) = 0 from rfl, show ((0 : Nat) : Int) = 0 from rfl] at this
  rw [this]
  simp only [Option.bind_some]
  rw [cut?_at g3 (Nat.le_refl _), List.take_length]
  simp only [Option.bind_some]
  rw [p_ownM _ (by simp; omega)]
  simp only [Option.bind_some]
  rw [app?_at (by simp; omega), g4]
  rfl
theorem p_rep {x : List Int} (hx : x.length ≤ 40) {R : List (List Int)} (hR : R.length ≤ 122) (hv : ∀ v ∈ R, v.length ≤ 120) : ∀ (rest pre : List (List Int)) (k : Nat) (out : List Int), R = pre ++ rest → out.length ≤ 200 * pre.length → rest.length < k → ∃ o, z0k.l1 x R k out (pre.length : Int) = some o ∧ z0y.l1 x R k out (pre.length : Int) = some o ∧ o.length ≤ 200 * R.length := by
 intro rest
 induction rest with
 | nil =>
  intro pre k out hp ho hk
  obtain ⟨k, rfl⟩ := Nat.exists_eq_succ_of_ne_zero (show k ≠ 0 by omega)
  subst hp
  refine ⟨out, ?_, ?_, by simpa using ho⟩
  ·rw [z0k.l1, if_neg (by simp)]
  ·rw [z0y.l1, if_neg (by simp)]
 | cons u us ih =>
  intro pre k out hp ho hk
  obtain ⟨k, rfl⟩ := Nat.exists_eq_succ_of_ne_zero (show k ≠ 0 by omega)
  have hr : rd? R (pre.length : Int) = some u := by rw [hp]; exact rd_mid pre u us
  have hlen : pre.length < R.length := by rw [hp]; simp
  have hu := hv u (by rw [hp]; simp)
  have hk' : us.length < k := by simp at hk; omega
  have c1 : decide ((pre.length : Int) < (R.length : Int)) = true := by simp; omega
  rw [z0k.l1, z0y.l1]
  simp only [c1, if_true, hr, yw pre.length (by omega), Option.bind_some]
  have go : ∀ out' : List Int, out'.length ≤ out.length + 40 → ∃ o, ((app? 17592186044416 out' u).bind fun x229 => z0k.l1 x R k x229 ((pre.length + 1 : Nat) : Int)) = some o ∧ ((app? 17592186044416 out' u).bind fun x240 => z0y.l1 x R k x240 ((pre.length + 1 : Nat) : Int)) = some o ∧ o.length ≤ 200 * R.length := by
   intro out' h
   rw [app?_at (by omega)]
   simp only [Option.bind_some]
   have := ih (pre ++ [u]) k (out' ++ u) (by rw [hp]; simp) (by simp; omega) hk'
   rw [List.length_append, List.length_singleton] at this
   exact this
  by_cases h0 : (pre.length : Int) > 0
  ·have c2 : decide ((pre.length : Int) > 0) = true := by simpa using h0
   simp only [c2, if_true]
   rw [app?_at (by omega)]
   simp only [Option.bind_some]
   exact go (out ++ x) (by simp; omega)
  ·have c2 : decide ((pre.length : Int) > 0) = false := by simpa using h0
   simp only [c2, Bool.false_eq_true, if_false, Option.bind_some]
   exact go out (by omega)
theorem okPl_ne {p : List Nd} (h : p.all okPl = true) : ∀ u ∈ p, u.1 ≠ 5 ∧ u.1 ≠ 7 := fun u hu => by
 have := List.all_eq_true.1 h u hu
 unfold okPl at this
 simp at this
 exact this
/-- Sums that stop at a million. -/
def sumC (h : Nat → Int) : Nat → Nat → Int → Int
 | 0, _, s => s
 | n + 1, i, s => sumC h n (i + 1) (min (s + h i) 1000000)
theorem sumC_bd {h : Nat → Int} (hh : ∀ i, 0 ≤ h i) : ∀ (n i : Nat) (s : Int), 0 ≤ s → s ≤ 1000000 → 0 ≤ sumC h n i s ∧ sumC h n i s ≤ 1000000
 | 0, _, _, h0, h1 => ⟨h0, h1⟩
 | n + 1, i, s, h0, h1 => sumC_bd hh n (i + 1) _ (by have := hh i; omega) (by omega)
theorem sumC_congr {h g : Nat → Int} : ∀ (n i : Nat) (s : Int), (∀ k, i ≤ k → k < i + n → h k = g k) → sumC h n i s = sumC g n i s
 | 0, _, _, _ => rfl
 | n + 1, i, s, hk => by
  unfold sumC
  rw [hk i (Nat.le_refl _) (by omega)]
  exact sumC_congr n (i + 1) _ fun k h1 h2 => hk k (by omega) (by omega)
def starC (g : Nat → Nat → Int) : Nat → Nat → Nat → Int
 | 0, _, _ => 1
 | n + 1, f, t => if f = t then 1 else sumC (fun m => g f m * starC g n m t) (t - f) (f + 1) 0
theorem starC_more (g : Nat → Nat → Int) : ∀ (n m f t : Nat), f ≤ t → t - f ≤ n → t - f ≤ m → starC g n f t = starC g m f t
 | 0, 0, _, _, _, _, _ => rfl
 | 0, m + 1, f, t, h, h1, _ => by unfold starC; rw [if_pos (by omega)]
 | n + 1, 0, f, t, h, _, h1 => by unfold starC; rw [if_pos (by omega)]
 | n + 1, m + 1, f, t, h, h1, h2 => by
  unfold starC
  split
  ·rfl
  ·refine sumC_congr _ _ _ fun k g1 g2 => ?_
   show _ * _ = _ * _
   rw [starC_more g n m k t (by omega) (by omega) (by omega)]
theorem starC_bd {g : Nat → Nat → Int} (hg : ∀ f t, 0 ≤ g f t) : ∀ (n f t : Nat), 0 ≤ starC g n f t ∧ starC g n f t ≤ 1000000
 | 0, _, _ => by unfold starC; omega
 | n + 1, f, t => by
  unfold starC
  split
  ·omega
  ·exact sumC_bd (fun i => Int.mul_nonneg (hg _ _) (starC_bd hg n i t).1) _ _ _ (Int.le_refl _) (by omega)
/-- How many parses there are, at most a million. -/
def cnt (l : List Int) : RT → Nat → Nat → Int
 | .nil, f, t => if f = t then 1 else 0
 | .set s, f, t => if t = f + 1 ∧ inS s (l[f]?.getD 0) = true then 1 else 0
 | .cat a b, f, t => sumC (fun m => cnt l a f m * cnt l b m t) (t - f + 1) f 0
 | .or a b, f, t => min (cnt l a f t + cnt l b f t) 1000000
 | .star a, f, t => starC (cnt l a) (t - f) f t
 | _, _, _ => 0
theorem cnt_bd (l : List Int) : ∀ (T : RT) (f t : Nat), 0 ≤ cnt l T f t ∧ cnt l T f t ≤ 1000000 := by
 intro T
 induction T with
 | nil => intro f t; unfold cnt; split <;> omega
 | set s => intro f t; unfold cnt; split <;> omega
 | cat a b ha hb => intro f t; unfold cnt; exact sumC_bd (fun i => Int.mul_nonneg (ha _ _).1 (hb _ _).1) _ _ _ (Int.le_refl _) (by omega)
 | or a b ha hb => intro f t; unfold cnt; have := ha f t; have := hb f t; omega
 | and a b ha hb => intro f t; unfold cnt; omega
 | star a ha => intro f t; unfold cnt; exact starC_bd (fun f t => (ha f t).1) _ _ _
 | not a ha => intro f t; unfold cnt; omega
theorem cnt_star (l : List Int) (a : RT) {f t : Nat} (h : f < t) : cnt l (.star a) f t = sumC (fun m => cnt l a f m * cnt l (.star a) m t) (t - f) (f + 1) 0 := by
 show starC (cnt l a) (t - f) f t = _
 obtain ⟨n, hn⟩ : ∃ n, t - f = n + 1 := ⟨t - f - 1, by omega⟩
 rw [hn]
 unfold starC
 rw [if_neg (by omega), hn]
 refine sumC_congr _ _ _ fun k g1 g2 => ?_
 show _ * _ = _ * starC _ _ _ _
 rw [starC_more (cnt l a) n (t - k) k t (by omega) (by omega) (Nat.le_refl _)]
theorem cnt_star_eq (l : List Int) (a : RT) (t : Nat) : cnt l (.star a) t t = 1 := by
 show starC (cnt l a) (t - t) t t = 1
 rw [Nat.sub_self]
 rfl
/-- A step of a sum, without overflow. -/
theorem stepC {s a b : Int} (hs : 0 ≤ s) (hs1 : s ≤ 1000000) (ha : 0 ≤ a) (ha1 : a ≤ 1000000) (hb : 0 ≤ b) (hb1 : b ≤ 1000000) : IntKind.i64.wrap (s + IntKind.i64.wrap (a * b)) = s + a * b := by
 have h1 : a * b ≤ 1000000 * 1000000 := Int.mul_le_mul ha1 hb1 hb (by omega)
 have h2 : 0 ≤ a * b := Int.mul_nonneg ha hb
 rw [yr (n := a * b) (by omega) (by omega), yr (by omega) (by omega)]
def valC (l : List Int) (p : List Nd) (K : List (List Int)) (c : Nat) : Nat → Nat → Int := cnt l (getT (trs p K) (c : Int))
def RowsC (n : Nat) (v : Nat → Nat → Int) (i j : Nat) (rows : List (List Int)) : Prop := rows.length = n + 1 ∧ ∀ g, i ≤ g → g ≤ n → ∃ row, rows[g]? = some row ∧ row.length = n + 1 ∧ ∀ t, g ≤ t → t ≤ n → (i < g ∨ t < j) → row[t]? = some (v g t)
def TbC (n : Nat) (V : Nat → Nat → Nat → Int) (m : Nat) (tb : List (List (List Int))) : Prop := ∀ c, c < m → ∃ rows, tb[c]? = some rows ∧ RowsC n (V c) 0 (n + 1) rows
theorem RowsC.rd {n : Nat} {v : Nat → Nat → Int} {i j : Nat} {rows : List (List Int)} (h : RowsC n v i j rows) {f t : Nat} (hi : i ≤ f) (hf : f ≤ t) (ht : t ≤ n) (ho : i < f ∨ t < j) : ∃ row, rd? rows (f : Int) = some row ∧ rd? row (t : Int) = some (v f t) := by
 obtain ⟨row, h1, _, h3⟩ := h.2 f hi (by omega)
 exact ⟨row, rd?_get' h1, rd?_get' (h3 t hf ht ho)⟩
theorem RowsC.last {n : Nat} {v : Nat → Nat → Int} {f : Nat} {rows : List (List Int)} (h : RowsC n v (f + 1) (n + 1) rows) (row : List Int) (hr : row.length = n + 1) (hf : f ≤ n) : RowsC n v f f (rows.set f row) := by
 refine ⟨by simpa using h.1, fun g h1 h2 => ?_⟩
 by_cases hg : f = g
 ·subst hg
  exact ⟨row, List.getElem?_set_self (by rw [h.1]; omega), hr, fun t a b c => by omega⟩
 ·obtain ⟨r, a, b, c⟩ := h.2 g (by omega) h2
  exact ⟨r, by rw [List.getElem?_set_ne hg]; exact a, b, fun t d e _ => c t d e (by omega)⟩
theorem p_cCat {l : List Int} {A B : RT} {ks : List Int} {tb ra rb : List _} {a b : Nat} {f t : Nat} (h0 : rd? ks 0 = some (a : Int)) (h1 : rd? ks 1 = some (b : Int)) (ha : rd? tb (a : Int) = some ra) (hb : rd? tb (b : Int) = some rb) (hra : RowsC l.length (cnt l A) 0 (l.length + 1) ra) (hrb : RowsC l.length (cnt l B) 0 (l.length + 1) rb) (hl : l.length ≤ 1000) (ht : t ≤ l.length) : ∀ (n i k : Nat) (s : Int), f ≤ i → i + n = t + 1 → n < k → 0 ≤ s → s ≤ 1000000 →
  z1t.l1 tb ks f t k s (i : Int) = some (sumC (fun m => cnt l A f m * cnt l B m t) n i s) := by
 intro n
 induction n with
 | zero =>
  intro i k s hf hi hk _ _
  obtain ⟨k, rfl⟩ := Nat.exists_eq_succ_of_ne_zero (show k ≠ 0 by omega)
  rw [z1t.l1, if_neg (by simp; omega)]
  rfl
 | succ n ih =>
  intro i k s hf hi hk hs hs1
  obtain ⟨k, rfl⟩ := Nat.exists_eq_succ_of_ne_zero (show k ≠ 0 by omega)
  obtain ⟨r1, e1, e2⟩ := hra.rd (f := f) (t := i) (by omega) hf (by omega) (by omega)
  obtain ⟨r2, e3, e4⟩ := hrb.rd (f := i) (t := t) (by omega) (by omega) ht (by omega)
  have b1 := cnt_bd l A f i
  have b2 := cnt_bd l B i t
  rw [z1t.l1, if_pos (by simp; omega), h0]
  simp only [Option.bind_some, ha, e1, e2, h1, hb, e3, e4]
  rw [stepC hs hs1 b1.1 b1.2 b2.1 b2.2, yw i (by omega)]
  have := Int.mul_nonneg b1.1 b2.1
  exact ih (i + 1) k _ (by omega) (by omega) (by omega) (by omega) (by omega)
theorem p_cStar {l : List Int} {A : RT} {ks : List Int} {tb ra rc : List _} {a c : Nat} {f t : Nat} (h0 : rd? ks 0 = some (a : Int)) (ha : rd? tb (a : Int) = some ra) (hc : rd? tb (c : Int) = some rc) (hra : RowsC l.length (cnt l A) 0 (l.length + 1) ra) (hrc : RowsC l.length (cnt l (.star A)) f t rc) (hl : l.length ≤ 1000) (ht : t ≤ l.length) : ∀ (n i k : Nat) (s : Int), f < i → i + n = t + 1 → n < k → 0 ≤ s → s ≤ 1000000 →
  z1t.l2 tb ks c f t k s (i : Int) = some (sumC (fun m => cnt l A f m * cnt l (.star A) m t) n i s) := by
 intro n
 induction n with
 | zero =>
  intro i k s hf hi hk _ _
  obtain ⟨k, rfl⟩ := Nat.exists_eq_succ_of_ne_zero (show k ≠ 0 by omega)
  rw [z1t.l2, if_neg (by simp; omega)]
  rfl
 | succ n ih =>
  intro i k s hf hi hk hs hs1
  obtain ⟨k, rfl⟩ := Nat.exists_eq_succ_of_ne_zero (show k ≠ 0 by omega)
  obtain ⟨r1, e1, e2⟩ := hra.rd (f := f) (t := i) (by omega) (by omega) (by omega) (by omega)
  obtain ⟨r2, e3, e4⟩ := hrc.rd (f := i) (t := t) (by omega) (by omega) ht (by omega)
  have b1 := cnt_bd l A f i
  have b2 := cnt_bd l (.star A) i t
  rw [z1t.l2, if_pos (by simp; omega), h0]
  simp only [Option.bind_some, ha, e1, e2, hc, e3, e4]
  rw [stepC hs hs1 b1.1 b1.2 b2.1 b2.2, yw i (by omega)]
  have := Int.mul_nonneg b1.1 b2.1
  exact ih (i + 1) k _ (by omega) (by omega) (by omega) (by omega) (by omega)
theorem p_countOf {p : List Nd} {K : List (List Int)} {l : List Int} {tb : List (List (List Int))} (hp : p.length ≤ 1000) (hset : ∀ u ∈ p, u.2.length ≤ 1000) (hl : l.length ≤ 1000) (hK : Kids p K p.length) {k : Nat} (hk : k < p.length) (hpl : p[k].1 ≠ 5 ∧ p[k].1 ≠ 7) {ks : List Int} (hks : K[k]? = some ks) (htb : TbC l.length (valC l p K) k tb) {rows : List (List Int)} (hr : tb[k]? = some rows) {f t : Nat} (hV : RowsC l.length (valC l p K k) f t rows) (hf : f ≤ t) (ht : t ≤ l.length) :
  ∃ v, z1t.f tb ks (k : Int) p[k].1 p[k].2 l (f : Int) (t : Int) = some v ∧ min v 1000000 = valC l p K k f t := by
 obtain ⟨ks', hks', hko⟩ := hK.2 k hk hk
 obtain rfl : ks' = ks := Option.some.inj (hks'.symm.trans hks)
 obtain ⟨k0, k1, k2, k3⟩ := hko
 unfold z1t.f valC
 have hsk := hset _ (List.getElem_mem hk)
 rcases ar_cases k3 with h | h | h | h | h | h | h
 ·have ht' := trs_at hK hk hks (by rw [k0 (by rw [h]; rfl)]; simp)
  have hm : mkT p[k] (ks'.map (getT (trs p K))) = .nil := by unfold mkT; simp [h]
  rw [ht', hm]
  simp only [h]
  refine ⟨if f = t then 1 else 0, ?_, ?_⟩
  ·by_cases hft : f = t
   ·subst hft; simp
   ·have : ((f : Int) == (t : Int)) = false := by simp; omega
    simp [this, hft]
  ·unfold cnt
   split <;> rfl
 ·have ht' := trs_at hK hk hks (by rw [k0 (by rw [h]; rfl)]; simp)
  have hm : mkT p[k] (ks'.map (getT (trs p K))) = .set p[k].2 := by unfold mkT; rw [if_neg (by omega), if_pos h]
  rw [ht', hm]
  simp only [h]
  have c1 : ((2 : Int) == 1) = false := by decide
  have c2 : ((2 : Int) == 2) = true := by decide
  simp only [c1, c2, Bool.false_eq_true, if_false, if_true]
  rw [yw f (by omega)]
  by_cases hft : t = f + 1
  ·subst hft
   rw [if_pos (by simp), rd?_at (show f < l.length by omega)]
   simp only [Option.bind_some]
   rw [p_implIn _ _ (by omega)]
   refine ⟨_, rfl, ?_⟩
   unfold cnt
   rw [List.getElem?_eq_getElem (show f < l.length by omega), Option.getD_some]
   cases inS p[k].2 l[f] <;> simp <;> decide
  ·rw [if_neg (by simp; omega)]
   refine ⟨0, rfl, ?_⟩
   unfold cnt
   rw [if_neg (fun h => hft h.1)]
   rfl
 ·obtain ⟨g, e1, g0, g1, g2⟩ := k2 (by rw [h]; rfl)
  obtain ⟨g, rfl⟩ := Int.eq_ofNat_of_zero_le g0
  have e2 : ((k : Int) - 1) = ((k - 1 : Nat) : Int) := by omega
  rw [e2] at e1
  have ht' := trs_at hK hk hks (by rw [e1]; intro c hc; simp at hc; omega)
  obtain ⟨ra, ha1, ha2⟩ := htb g (by omega)
  obtain ⟨rb, hb1, hb2⟩ := htb (k - 1) (by omega)
  have hm : mkT p[k] (ks'.map (getT (trs p K))) = .cat (getT (trs p K) (g : Int)) (getT (trs p K) ((k - 1 : Nat) : Int)) := by rw [e1]; unfold mkT; simp [h]
  have r0 : rd? ks' 0 = some (g : Int) := by rw [e1]; rfl
  have r1 : rd? ks' 1 = some ((k - 1 : Nat) : Int) := by rw [e1]; rfl
  rw [ht', hm]
  simp only [h]
  have c1 : ((3 : Int) == 1) = false := by decide
  have c2 : ((3 : Int) == 2) = false := by decide
  have c4 : ((3 : Int) == 4) = false := by decide
  have c3 : ((3 : Int) == 3) = true := by decide
  simp only [c1, c2, c3, c4, Bool.false_eq_true, if_false, if_true]
  rw [p_cCat r0 r1 (rd?_get' ha1) (rd?_get' hb1) ha2 hb2 hl ht (t - f + 1) f _ 0 (Nat.le_refl _) (by omega) (by omega) (Int.le_refl _) (by omega)]
  refine ⟨_, rfl, ?_⟩
  have := cnt_bd l (.cat (getT (trs p K) (g : Int)) (getT (trs p K) ((k - 1 : Nat) : Int))) f t
  exact Int.min_eq_left this.2
 ·obtain ⟨g, e1, g0, g1, g2⟩ := k2 (by rw [h]; rfl)
  obtain ⟨g, rfl⟩ := Int.eq_ofNat_of_zero_le g0
  have e2 : ((k : Int) - 1) = ((k - 1 : Nat) : Int) := by omega
  rw [e2] at e1
  have ht' := trs_at hK hk hks (by rw [e1]; intro c hc; simp at hc; omega)
  obtain ⟨ra, ha1, ha2⟩ := htb g (by omega)
  obtain ⟨rb, hb1, hb2⟩ := htb (k - 1) (by omega)
  have hm : mkT p[k] (ks'.map (getT (trs p K))) = .or (getT (trs p K) (g : Int)) (getT (trs p K) ((k - 1 : Nat) : Int)) := by rw [e1]; unfold mkT; simp [h]
  have r0 : rd? ks' 0 = some (g : Int) := by rw [e1]; rfl
  have r1 : rd? ks' 1 = some ((k - 1 : Nat) : Int) := by rw [e1]; rfl
  rw [ht', hm]
  simp only [h]
  have c1 : ((4 : Int) == 1) = false := by decide
  have c2 : ((4 : Int) == 2) = false := by decide
  have c4 : ((4 : Int) == 4) = true := by decide
  obtain ⟨q1, a1, a2⟩ := ha2.rd (f := f) (t := t) (by omega) hf ht (by omega)
  obtain ⟨q2, b1, b2⟩ := hb2.rd (f := f) (t := t) (by omega) hf ht (by omega)
  have d1 := cnt_bd l (getT (trs p K) (g : Int)) f t
  have d2 := cnt_bd l (getT (trs p K) ((k - 1 : Nat) : Int)) f t
  unfold valC at a2 b2
  simp only [c1, c2, c4, Bool.false_eq_true, if_false, if_true, r0, r1, Option.bind_some, rd?_get' ha1, rd?_get' hb1, a1, a2, b1, b2]
  rw [yr (by omega) (by omega)]
  exact ⟨_, rfl, rfl⟩
 ·exact absurd h hpl.1
 ·obtain ⟨e1, g1⟩ := k1 (by rw [h]; rfl)
  have e2 : ((k : Int) - 1) = ((k - 1 : Nat) : Int) := by omega
  rw [e2] at e1
  have ht' := trs_at hK hk hks (by rw [e1]; intro c hc; simp at hc; omega)
  obtain ⟨ra, ha1, ha2⟩ := htb (k - 1) (by omega)
  have hm : mkT p[k] (ks'.map (getT (trs p K))) = .star (getT (trs p K) ((k - 1 : Nat) : Int)) := by rw [e1]; unfold mkT; simp [h]
  have r0 : rd? ks' 0 = some ((k - 1 : Nat) : Int) := by rw [e1]; rfl
  rw [hm] at ht'
  unfold valC at hV
  rw [ht'] at hV ⊢
  simp only [h]
  have c1 : ((6 : Int) == 1) = false := by decide
  have c2 : ((6 : Int) == 2) = false := by decide
  have c3 : ((6 : Int) == 3) = false := by decide
  have c4 : ((6 : Int) == 4) = false := by decide
  simp only [c1, c2, c3, c4, Bool.false_eq_true, if_false, if_true, Option.bind_some]
  by_cases hft : f = t
  ·subst hft
   rw [if_pos (by simp), cnt_star_eq]
   exact ⟨1, rfl, rfl⟩
  ·rw [if_neg (by simp; omega), yw f (by omega)]
   rw [p_cStar r0 (rd?_get' ha1) (rd?_get' hr) ha2 hV hl ht (t - f) (f + 1) _ 0 (by omega) (by omega) (by omega) (Int.le_refl _) (by omega)]
   refine ⟨_, rfl, ?_⟩
   have := cnt_bd l (.star (getT (trs p K) ((k - 1 : Nat) : Int))) f t
   rw [cnt_star l _ (by omega)] at this ⊢
   omega
 ·exact absurd h hpl.2
theorem TbC.app {n : Nat} {V : Nat → Nat → Nat → Int} {tb : List (List (List Int))} (h : TbC n V tb.length tb) (r : List (List Int)) : TbC n V tb.length (tb ++ [r]) := fun c hc => by
 obtain ⟨rows, h1, h2⟩ := h c hc
 exact ⟨rows, by rw [List.getElem?_append_left hc]; exact h1, h2⟩
section
variable {p : List Nd} {K : List (List Int)} {bo : Bool} {l : List Int}
theorem p_c3 (hp : p.length ≤ 1000) (hset : ∀ u ∈ p, u.2.length ≤ 1000) (hpl : ∀ u ∈ p, u.1 ≠ 5 ∧ u.1 ≠ 7) (hl : l.length ≤ 1000) (hK : Kids p K p.length) {tb : List (List (List Int))} {r0 : List (List Int)} (hk : tb.length < p.length) (htb : TbC l.length (valC l p K) tb.length tb) {f : Nat} (hf : f ≤ l.length) : ∀ (m t k : Nat) (rows : List (List Int)), f ≤ t → t + m = l.length + 1 → m < k → RowsC l.length (valC l p K tb.length) f t rows →
  ∃ rows', z1u.l3 l (K, bo) tb (tb.length : Int) p[tb.length] (tb ++ [r0]) (f : Int) k rows (t : Int) = some rows' ∧ RowsC l.length (valC l p K tb.length) f (l.length + 1) rows' := by
 intro m
 induction m with
 | zero =>
  intro t k rows h1 h2 hk2 hV
  obtain ⟨k, rfl⟩ := Nat.exists_eq_succ_of_ne_zero (show k ≠ 0 by omega)
  rw [z1u.l3, if_neg (by simp; omega)]
  obtain rfl : t = l.length + 1 := by omega
  exact ⟨rows, rfl, hV⟩
 | succ m ih =>
  intro t k rows h1 h2 hk2 hV
  obtain ⟨k, rfl⟩ := Nat.exists_eq_succ_of_ne_zero (show k ≠ 0 by omega)
  obtain ⟨row, e1, e2, e3⟩ := hV.2 f (Nat.le_refl _) hf
  obtain ⟨ks, hks, _⟩ := hK.2 tb.length hk hk
  have hrl : f < rows.length := by rw [hV.1]; omega
  have q1 := st_mid tb r0 rows []
  obtain ⟨v, q2, q3⟩ := p_countOf hp hset hl hK hk (hpl _ (List.getElem_mem hk)) hks (htb.app rows) (rows := rows) (by rw [List.getElem?_append_right (Nat.le_refl _)]; simp) hV h1 (show t ≤ l.length by omega)
  rw [z1u.l3, if_pos (by simp; omega), rd?_get' hks, rd?_get' e1]
  simp only [Option.bind_some]
  rw [q1]
  simp only [Option.bind_some]
  rw [q2]
  simp only [Option.bind_some]
  rw [rd?_at (show t < row.length by omega)]
  simp only [Option.bind_some]
  rw [st?_at _ (show t < row.length by omega)]
  simp only [Option.bind_some]
  rw [st?_at _ hrl]
  simp only [Option.bind_some]
  rw [yw t (by omega), q3]
  refine ih (t + 1) k _ (by omega) (by omega) (by omega) ⟨by simpa using hV.1, fun r hr1 hr => ?_⟩
  by_cases hfr : f = r
  ·subst hfr
   refine ⟨_, List.getElem?_set_self hrl, by simpa using e2, fun t' g1 g2 g3 => ?_⟩
   by_cases htt : t = t'
   ·subst htt
    rw [List.getElem?_set_self (by omega)]
   ·rw [List.getElem?_set_ne htt]
    exact e3 t' g1 g2 (by omega)
  ·obtain ⟨row', b1, b2, b3⟩ := hV.2 r hr1 hr
   exact ⟨row', by rw [List.getElem?_set_ne hfr]; exact b1, b2, fun t' g1 g2 g3 => b3 t' g1 g2 (by omega)⟩
theorem p_c2 (hp : p.length ≤ 1000) (hset : ∀ u ∈ p, u.2.length ≤ 1000) (hpl : ∀ u ∈ p, u.1 ≠ 5 ∧ u.1 ≠ 7) (hl : l.length ≤ 1000) (hK : Kids p K p.length) {tb : List (List (List Int))} {r0 : List (List Int)} (hk : tb.length < p.length) (htb : TbC l.length (valC l p K) tb.length tb) : ∀ (q k : Nat) (rows : List (List Int)), q ≤ l.length + 1 → q < k → RowsC l.length (valC l p K tb.length) q (l.length + 1) rows →
  ∃ rows', z1u.l2 l (K, bo) tb (tb.length : Int) p[tb.length] (tb ++ [r0]) k rows ((q : Int) - 1) = some (tb ++ [rows']) ∧ RowsC l.length (valC l p K tb.length) 0 (l.length + 1) rows' := by
 intro q
 induction q with
 | zero =>
  intro k rows h1 hk2 hV
  obtain ⟨k, rfl⟩ := Nat.exists_eq_succ_of_ne_zero (show k ≠ 0 by omega)
  rw [z1u.l2, if_neg (by decide), st_mid tb r0 rows []]
  exact ⟨rows, rfl, hV⟩
 | succ q ih =>
  intro k rows h1 hk2 hV
  obtain ⟨k, rfl⟩ := Nat.exists_eq_succ_of_ne_zero (show k ≠ 0 by omega)
  have hq : q < rows.length := by rw [hV.1]; omega
  rw [show ((q + 1 : Nat) : Int) - 1 = (q : Int) by omega, z1u.l2, if_pos (by simp), yw l.length (by omega), mk?_at (by omega)]
  simp only [Option.bind_some]
  rw [rd?_at hq]
  simp only [Option.bind_some]
  rw [st?_at _ hq]
  simp only [Option.bind_some]
  obtain ⟨rows', e1, e2⟩ := p_c3 (bo := bo) (r0 := r0) hp hset hpl hl hK hk htb (f := q) (by omega) (l.length + 1 - q) q (((l.length : Int) - (q : Int)).toNat + 2) (rows.set q (List.replicate (l.length + 1) 0)) (Nat.le_refl _) (by omega) (by omega) (hV.last _ (by simp) (by omega))
  rw [e1]
  simp only [Option.bind_some]
  rw [yr (by omega) (by omega)]
  exact ih k rows' (by omega) (by omega) e2
theorem p_c1 (hp : p.length ≤ 1000) (hset : ∀ u ∈ p, u.2.length ≤ 1000) (hpl : ∀ u ∈ p, u.1 ≠ 5 ∧ u.1 ≠ 7) (hl : l.length ≤ 1000) (hK : Kids p K p.length) : ∀ (m k : Nat) (tb : List (List (List Int))), tb.length + m = p.length → m < k → TbC l.length (valC l p K) tb.length tb → ∃ tb', z1u.l1 p l (K, bo) k tb (tb.length : Int) = some tb' ∧ tb'.length = p.length ∧ TbC l.length (valC l p K) p.length tb' := by
 intro m
 induction m with
 | zero =>
  intro k tb h1 hk htb
  obtain ⟨k, rfl⟩ := Nat.exists_eq_succ_of_ne_zero (show k ≠ 0 by omega)
  rw [z1u.l1, if_neg (by simp; omega)]
  exact ⟨tb, rfl, by omega, by rw [← show tb.length = p.length by omega]; exact htb⟩
 | succ m ih =>
  intro k tb h1 hk htb
  obtain ⟨k, rfl⟩ := Nat.exists_eq_succ_of_ne_zero (show k ≠ 0 by omega)
  rw [z1u.l1, if_pos (by simp; omega), rd?_at (show tb.length < p.length by omega), yw l.length (by omega), mk?_at (by omega)]
  simp only [Option.bind_some]
  rw [app?_at (by simp; omega)]
  simp only [Option.bind_some]
  obtain ⟨rows', e1, e2⟩ := p_c2 (bo := bo) (r0 := List.replicate (l.length + 1) []) hp hset hpl hl hK (show tb.length < p.length by omega) htb (l.length + 1) (((l.length : Int) - 0).toNat + 2) (List.replicate (l.length + 1) []) (Nat.le_refl _) (by omega) ⟨by simp, fun g h1 h2 => by omega⟩
  rw [show ((l.length + 1 : Nat) : Int) - 1 = (l.length : Int) by omega] at e1
  rw [e1]
  simp only [Option.bind_some]
  rw [yw tb.length (by omega)]
  have := ih k (tb ++ [rows']) (by simp; omega) (by omega) (by
   rw [List.length_append, List.length_singleton]
   intro c hc
   by_cases hct : c < tb.length
   ·exact htb.app rows' c hct
   ·obtain rfl : c = tb.length := by omega
    exact ⟨rows', by rw [List.getElem?_append_right (Nat.le_refl _)]; simp, e2⟩)
  rw [List.length_append, List.length_singleton] at this
  exact this
theorem p_counts {q : List Int} (hp : p.length ≤ 1000) (hset : ∀ u ∈ p, u.2.length ≤ 1000) (hpl : ∀ u ∈ p, u.1 ≠ 5 ∧ u.1 ≠ 7) (hl : l.length ≤ 1000) (h : pileR p 0 [] [] = some (K, q)) : Kids p K p.length ∧ ∃ tb, z1u.f p l = some tb ∧ tb.length = p.length ∧ TbC l.length (valC l p K) p.length tb := by
 have hK : Kids p K p.length := (kids_of p hp p [] [] [] K q rfl rfl ⟨rfl, fun k hk => by simp at hk⟩ h).1
 refine ⟨hK, ?_⟩
 obtain ⟨tb, e1, e2, e3⟩ := p_c1 (bo := ((q.length : Int) == 1)) hp hset hpl hl hK p.length (((p.length : Int) - 0).toNat + 2) [] (by simp) (by omega) (fun c hc => by simp at hc)
 refine ⟨tb, ?_, e2, e3⟩
 unfold z1u.f
 rw [p_parts p (by omega), h]
 simp only [Option.bind_some]
 rw [show (([] : List (List (List Int))).length : Int) = 0 from rfl] at e1
 rw [e1]
 rfl
end
theorem l1LeastP (a b : Int) : z5.f a b = some (min a b) := by
 unfold z5.f
 by_cases h : a < b
 ·rw [if_pos (by simpa using h)]
  congr 1
  omega
 ·rw [if_neg (by simpa using h)]
  congr 1
  omega
def FlatC (n : Nat) (v : Nat → Nat → Int) (i j : Nat) (fl : List Int) : Prop := fl.length = (n + 1) * (n + 1) ∧ ∀ f t, f ≤ t → t ≤ n → (i < f ∨ f = i ∧ t < j) → fl[f * (n + 1) + t]? = some (v f t)
def FlatD (n : Nat) (v : Nat → Nat → Int) (fl : List Int) : Prop := fl.length = (n + 1) * (n + 1) ∧ ∀ f t, f ≤ t → t ≤ n → fl[f * (n + 1) + t]? = some (v f t)
def TfC (n : Nat) (V : Nat → Nat → Nat → Int) (m : Nat) (tb : List (List Int)) : Prop := ∀ c, c < m → ∃ fl, tb[c]? = some fl ∧ FlatD n (V c) fl
theorem FlatD.rd {n : Nat} {v : Nat → Nat → Int} {fl : List Int} (h : FlatD n v fl) (hn : n ≤ 1000) {f t : Nat} (hf : f ≤ t) (ht : t ≤ n) : rd? fl (IntKind.i64.wrap ((IntKind.i64.wrap ((f : Int) * (IntKind.i64.wrap ((n : Int) + 1)))) + (t : Int))) = some (v f t) := by
 rw [ix_flat hn (by omega) ht]
 exact rd?_get' (h.2 f t hf ht)
theorem FlatC.rd {n : Nat} {v : Nat → Nat → Int} {i j : Nat} {fl : List Int} (h : FlatC n v i j fl) (hn : n ≤ 1000) {f t : Nat} (hf : f ≤ t) (ht : t ≤ n) (ho : i < f ∨ f = i ∧ t < j) : rd? fl (IntKind.i64.wrap ((IntKind.i64.wrap ((f : Int) * (IntKind.i64.wrap ((n : Int) + 1)))) + (t : Int))) = some (v f t) := by
 rw [ix_flat hn (by omega) ht]
 exact rd?_get' (h.2 f t hf ht ho)
theorem p_sCat {p : List Nd} {l : List Int} {A B : RT} {tb : List (List Int)} {fa fb : List Int} {a k0 : Nat} {f t : Nat} (hl : l.length ≤ 1000) (hk0 : IntKind.i64.wrap ((k0 : Int) - 1) = ((k0 - 1 : Nat) : Int)) (h1 : z0s.f p (k0 : Int) = some (a : Int)) (ha : rd? tb (a : Int) = some fa) (hb : rd? tb ((k0 - 1 : Nat) : Int) = some fb) (hfa : FlatD l.length (cnt l A) fa) (hfb : FlatD l.length (cnt l B) fb) (ht : t ≤ l.length) : ∀ (n i k : Nat) (s : Int), f ≤ i → i + n = t + 1 → n < k → 0 ≤ s → s ≤ 1000000 →
  z1w.l1 p tb l (k0 : Int) f t k s (i : Int) = some (sumC (fun m => cnt l A f m * cnt l B m t) n i s) := by
 intro n
 induction n with
 | zero =>
  intro i k s hf hi hk _ _
  obtain ⟨k, rfl⟩ := Nat.exists_eq_succ_of_ne_zero (show k ≠ 0 by omega)
  rw [z1w.l1, if_neg (by simp; omega)]
  rfl
 | succ n ih =>
  intro i k s hf hi hk hs hs1
  obtain ⟨k, rfl⟩ := Nat.exists_eq_succ_of_ne_zero (show k ≠ 0 by omega)
  have b1 := cnt_bd l A f i
  have b2 := cnt_bd l B i t
  rw [z1w.l1, if_pos (by simp; omega), hk0, hb]
  simp only [Option.bind_some, hfb.rd hl (show i ≤ t by omega) ht, h1, ha, hfa.rd hl hf (show i ≤ l.length by omega)]
  rw [stepC hs hs1 b1.1 b1.2 b2.1 b2.2, l1LeastP]
  simp only [Option.bind_some]
  rw [yw i (by omega), Int.min_comm]
  have := Int.mul_nonneg b1.1 b2.1
  exact ih (i + 1) k _ (by omega) (by omega) (by omega) (by omega) (by omega)
theorem p_sStar {l : List Int} {A : RT} {tb : List (List Int)} {fa fc : List Int} {k0 : Nat} {f t : Nat} (hl : l.length ≤ 1000) (hk0 : IntKind.i64.wrap ((k0 : Int) - 1) = ((k0 - 1 : Nat) : Int)) (ha : rd? tb ((k0 - 1 : Nat) : Int) = some fa) (hfa : FlatD l.length (cnt l A) fa) (hfc : FlatC l.length (cnt l (.star A)) f t fc) (ht : t ≤ l.length) : ∀ (n i k : Nat) (s : Int), f < i → i + n = t + 1 → n < k → 0 ≤ s → s ≤ 1000000 →
  z1w.l2 tb fc l (k0 : Int) f t k s (i : Int) = some (sumC (fun m => cnt l A f m * cnt l (.star A) m t) n i s) := by
 intro n
 induction n with
 | zero =>
  intro i k s hf hi hk _ _
  obtain ⟨k, rfl⟩ := Nat.exists_eq_succ_of_ne_zero (show k ≠ 0 by omega)
  rw [z1w.l2, if_neg (by simp; omega)]
  rfl
 | succ n ih =>
  intro i k s hf hi hk hs hs1
  obtain ⟨k, rfl⟩ := Nat.exists_eq_succ_of_ne_zero (show k ≠ 0 by omega)
  have b1 := cnt_bd l A f i
  have b2 := cnt_bd l (.star A) i t
  have e : (if decide ((i : Int) < (t : Int)) = true then ((rd? fc (IntKind.i64.wrap ((IntKind.i64.wrap ((i : Int) * (IntKind.i64.wrap ((l.length : Int) + 1)))) + (t : Int)))).bind fun u => some u) else some 1) = some (cnt l (.star A) i t) := by
   by_cases hit : i < t
   ·rw [if_pos (by simpa using hit), hfc.rd hl (show i ≤ t by omega) ht (.inl hf)]
    rfl
   ·rw [if_neg (by simpa using hit)]
    obtain rfl : i = t := by omega
    rw [cnt_star_eq]
  rw [z1w.l2, if_pos (by simp; omega), e]
  simp only [Option.bind_some]
  rw [hk0, ha]
  simp only [Option.bind_some, hfa.rd hl (show f ≤ i by omega) (show i ≤ l.length by omega)]
  rw [stepC hs hs1 b1.1 b1.2 b2.1 b2.2, l1LeastP]
  simp only [Option.bind_some]
  rw [yw i (by omega), Int.min_comm]
  have := Int.mul_nonneg b1.1 b2.1
  exact ih (i + 1) k _ (by omega) (by omega) (by omega) (by omega) (by omega)
theorem p_sCell {p : List Nd} {K : List (List Int)} {l : List Int} {tb : List (List Int)} {fl : List Int} (hp : p.length ≤ 1000) (hset : ∀ u ∈ p, u.2.length ≤ 1000 ∧ u.2.length % 2 = 0) (hl : l.length ≤ 1000) (hK : Kids p K p.length) {k : Nat} (hk : k < p.length) (hpl : p[k].1 ≠ 5 ∧ p[k].1 ≠ 7) (htb : TfC l.length (valC l p K) k tb) {f t : Nat} (hV : FlatC l.length (valC l p K k) f t fl) (hf : f ≤ t) (ht : t ≤ l.length) :
  ∃ v, z1w.f p tb fl l (k : Int) p[k].1 p[k].2 (f : Int) (t : Int) = some v ∧ min v 1000000 = valC l p K k f t := by
 obtain ⟨ks, hks, hko⟩ := hK.2 k hk hk
 obtain ⟨k0, k1, k2, k3⟩ := hko
 unfold z1w.f valC
 have hsk := hset _ (List.getElem_mem hk)
 rcases ar_cases k3 with h | h | h | h | h | h | h
 ·have ht' := trs_at hK hk hks (by rw [k0 (by rw [h]; rfl)]; simp)
  have hm : mkT p[k] (ks.map (getT (trs p K))) = .nil := by unfold mkT; simp [h]
  rw [ht', hm]
  simp only [h]
  refine ⟨if f = t then 1 else 0, ?_, ?_⟩
  ·by_cases hft : f = t
   ·subst hft; simp
   ·have : ((f : Int) == (t : Int)) = false := by simp; omega
    simp [this, hft]
  ·unfold cnt
   split <;> rfl
 ·have ht' := trs_at hK hk hks (by rw [k0 (by rw [h]; rfl)]; simp)
  have hm : mkT p[k] (ks.map (getT (trs p K))) = .set p[k].2 := by unfold mkT; rw [if_neg (by omega), if_pos h]
  rw [ht', hm]
  simp only [h]
  have c1 : ((2 : Int) == 1) = false := by decide
  have c2 : ((2 : Int) == 2) = true := by decide
  simp only [c1, c2, Bool.false_eq_true, if_false, if_true]
  rw [yw f (by omega)]
  unfold cnt
  by_cases hft : t = f + 1
  ·subst hft
   rw [if_pos (by simp), rd?_at (show f < l.length by omega)]
   simp only [Option.bind_some]
   rw [p_specIn _ _ (by omega) hsk.2, List.getElem?_eq_getElem (show f < l.length by omega), Option.getD_some]
   cases inS p[k].2 l[f]
   ·exact ⟨0, rfl, by simp; decide⟩
   ·exact ⟨1, rfl, by simp; decide⟩
  ·rw [if_neg (by simp; omega)]
   exact ⟨0, rfl, by rw [if_neg (fun h => hft h.1)]; rfl⟩
 ·obtain ⟨g, e1, g0, g1, g2⟩ := k2 (by rw [h]; rfl)
  obtain ⟨g, rfl⟩ := Int.eq_ofNat_of_zero_le g0
  have hw : IntKind.i64.wrap ((k : Int) - 1) = ((k - 1 : Nat) : Int) := by rw [yr (by omega) (by omega)]; omega
  have e2 : ((k : Int) - 1) = ((k - 1 : Nat) : Int) := by omega
  rw [e2] at e1
  have ht' := trs_at hK hk hks (by rw [e1]; intro c hc; simp at hc; omega)
  obtain ⟨ra, ha1, ha2⟩ := htb g (by omega)
  obtain ⟨rb, hb1, hb2⟩ := htb (k - 1) (by omega)
  have hm : mkT p[k] (ks.map (getT (trs p K))) = .cat (getT (trs p K) (g : Int)) (getT (trs p K) ((k - 1 : Nat) : Int)) := by rw [e1]; unfold mkT; simp [h]
  rw [ht', hm]
  simp only [h]
  have c1 : ((3 : Int) == 1) = false := by decide
  have c2 : ((3 : Int) == 2) = false := by decide
  have c4 : ((3 : Int) == 4) = false := by decide
  have c3 : ((3 : Int) == 3) = true := by decide
  simp only [c1, c2, c3, c4, Bool.false_eq_true, if_false, if_true]
  rw [p_sCat hl hw g2 (rd?_get' ha1) (rd?_get' hb1) ha2 hb2 ht (t - f + 1) f _ 0 (Nat.le_refl _) (by omega) (by omega) (Int.le_refl _) (by omega)]
  refine ⟨_, rfl, ?_⟩
  have := cnt_bd l (.cat (getT (trs p K) (g : Int)) (getT (trs p K) ((k - 1 : Nat) : Int))) f t
  exact Int.min_eq_left this.2
 ·obtain ⟨g, e1, g0, g1, g2⟩ := k2 (by rw [h]; rfl)
  obtain ⟨g, rfl⟩ := Int.eq_ofNat_of_zero_le g0
  have hw : IntKind.i64.wrap ((k : Int) - 1) = ((k - 1 : Nat) : Int) := by rw [yr (by omega) (by omega)]; omega
  have e2 : ((k : Int) - 1) = ((k - 1 : Nat) : Int) := by omega
  rw [e2] at e1
  have ht' := trs_at hK hk hks (by rw [e1]; intro c hc; simp at hc; omega)
  obtain ⟨ra, ha1, ha2⟩ := htb g (by omega)
  obtain ⟨rb, hb1, hb2⟩ := htb (k - 1) (by omega)
  have hm : mkT p[k] (ks.map (getT (trs p K))) = .or (getT (trs p K) (g : Int)) (getT (trs p K) ((k - 1 : Nat) : Int)) := by rw [e1]; unfold mkT; simp [h]
  rw [ht', hm]
  simp only [h]
  have c1 : ((4 : Int) == 1) = false := by decide
  have c2 : ((4 : Int) == 2) = false := by decide
  have c4 : ((4 : Int) == 4) = true := by decide
  have d1 := cnt_bd l (getT (trs p K) (g : Int)) f t
  have d2 := cnt_bd l (getT (trs p K) ((k - 1 : Nat) : Int)) f t
  have x1 := ha2.rd hl hf ht
  have x2 := hb2.rd hl hf ht
  unfold valC at x1 x2
  simp only [c1, c2, c4, Bool.false_eq_true, if_false, if_true, hw, g2, Option.bind_some, rd?_get' ha1, rd?_get' hb1, x1, x2]
  rw [yr (by omega) (by omega)]
  exact ⟨_, rfl, rfl⟩
 ·exact absurd h hpl.1
 ·obtain ⟨e1, g1⟩ := k1 (by rw [h]; rfl)
  have hw : IntKind.i64.wrap ((k : Int) - 1) = ((k - 1 : Nat) : Int) := by rw [yr (by omega) (by omega)]; omega
  have e2 : ((k : Int) - 1) = ((k - 1 : Nat) : Int) := by omega
  rw [e2] at e1
  have ht' := trs_at hK hk hks (by rw [e1]; intro c hc; simp at hc; omega)
  obtain ⟨ra, ha1, ha2⟩ := htb (k - 1) (by omega)
  have hm : mkT p[k] (ks.map (getT (trs p K))) = .star (getT (trs p K) ((k - 1 : Nat) : Int)) := by rw [e1]; unfold mkT; simp [h]
  rw [hm] at ht'
  unfold valC at hV
  rw [ht'] at hV ⊢
  simp only [h]
  have c1 : ((6 : Int) == 1) = false := by decide
  have c2 : ((6 : Int) == 2) = false := by decide
  have c3 : ((6 : Int) == 3) = false := by decide
  have c4 : ((6 : Int) == 4) = false := by decide
  have c6 : ((6 : Int) == 6) = true := by decide
  simp only [c1, c2, c3, c4, c6, Bool.false_eq_true, if_false, if_true, Option.bind_some]
  by_cases hft : f = t
  ·subst hft
   rw [if_pos (by simp), cnt_star_eq]
   exact ⟨1, rfl, rfl⟩
  ·rw [if_neg (by simp; omega), yw f (by omega)]
   rw [p_sStar hl hw (rd?_get' ha1) ha2 hV ht (t - f) (f + 1) _ 0 (by omega) (by omega) (by omega) (Int.le_refl _) (by omega)]
   refine ⟨_, rfl, ?_⟩
   have := cnt_bd l (.star (getT (trs p K) ((k - 1 : Nat) : Int))) f t
   rw [cnt_star l _ (by omega)] at this ⊢
   omega
 ·exact absurd h hpl.2
theorem FlatC.last {n : Nat} {v : Nat → Nat → Int} {f : Nat} {fl : List Int} (h : FlatC n v f (n + 1) fl) : ∀ g, g + 1 = f → FlatC n v g g fl := fun g hg =>
 ⟨h.1, fun r t h1 h2 ho => h.2 r t h1 h2 (by omega)⟩
theorem FlatC.all {n : Nat} {v : Nat → Nat → Int} {fl : List Int} (h : FlatC n v 0 (n + 1) fl) : FlatD n v fl :=
 ⟨h.1, fun r t h1 h2 => h.2 r t h1 h2 (by omega)⟩
section
variable {p : List Nd} {K : List (List Int)} {l : List Int}
theorem p_d3 (hp : p.length ≤ 1000) (hset : ∀ u ∈ p, u.2.length ≤ 1000 ∧ u.2.length % 2 = 0) (hpl : ∀ u ∈ p, u.1 ≠ 5 ∧ u.1 ≠ 7) (hl : l.length ≤ 1000) (hK : Kids p K p.length) {tb : List (List Int)} {c : Nat} (hk : c < p.length) (htb : TfC l.length (valC l p K) c tb) {f : Nat} (hf : f ≤ l.length) : ∀ (m t k : Nat) (fl : List Int), f ≤ t → t + m = l.length + 1 → m < k → FlatC l.length (valC l p K c) f t fl → ∃ fl', z1x.l3 p l tb (c : Int) p[c] (f : Int) k fl (t : Int) = some fl' ∧ FlatC l.length (valC l p K c) f (l.length + 1) fl' := by
 intro m
 induction m with
 | zero =>
  intro t k fl h1 h2 hk2 hV
  obtain ⟨k, rfl⟩ := Nat.exists_eq_succ_of_ne_zero (show k ≠ 0 by omega)
  rw [z1x.l3, yw l.length (by omega), if_neg (by simp; omega)]
  obtain rfl : t = l.length + 1 := by omega
  exact ⟨fl, rfl, hV⟩
 | succ m ih =>
  intro t k fl h1 h2 hk2 hV
  obtain ⟨k, rfl⟩ := Nat.exists_eq_succ_of_ne_zero (show k ≠ 0 by omega)
  have htl : t ≤ l.length := by omega
  obtain ⟨v, q2, q3⟩ := p_sCell hp hset hl hK hk (hpl _ (List.getElem_mem hk)) htb hV h1 htl
  have hi : f * (l.length + 1) + t < fl.length := by rw [hV.1]; exact ix_lt hf htl
  have c1 : decide ((t : Int) < IntKind.i64.wrap ((l.length : Int) + 1)) = true := by rw [yw l.length (by omega)]; simp; omega
  rw [z1x.l3, if_pos c1, q2]
  simp only [Option.bind_some]
  rw [l1LeastP, Int.min_comm, q3]
  simp only [Option.bind_some]
  rw [ix_flat hl hf htl, rd?_at hi]
  simp only [Option.bind_some]
  rw [st?_at _ hi]
  simp only [Option.bind_some]
  rw [yw t (by omega)]
  refine ih (t + 1) k _ (by omega) (by omega) (by omega) ⟨by simpa using hV.1, fun r t' g1 g2 g3 => ?_⟩
  by_cases he : f * (l.length + 1) + t = r * (l.length + 1) + t'
  ·obtain ⟨rfl, rfl⟩ := ix_inj htl g2 he
   rw [List.getElem?_set_self hi]
  ·rw [List.getElem?_set_ne he]
   refine hV.2 r t' g1 g2 ?_
   rcases g3 with g3 | ⟨g3, g4⟩
   ·exact .inl g3
   ·subst g3
    exact .inr ⟨rfl, by have : t ≠ t' := fun h => he (by rw [h]); omega⟩
theorem p_d2 (hp : p.length ≤ 1000) (hset : ∀ u ∈ p, u.2.length ≤ 1000 ∧ u.2.length % 2 = 0) (hpl : ∀ u ∈ p, u.1 ≠ 5 ∧ u.1 ≠ 7) (hl : l.length ≤ 1000) (hK : Kids p K p.length) {tb : List (List Int)} {c : Nat} (hk : c < p.length) (htb : TfC l.length (valC l p K) c tb) : ∀ (q k : Nat) (fl : List Int), q ≤ l.length + 1 → q < k → FlatC l.length (valC l p K c) q (l.length + 1) fl → ∃ fl', z1x.l2 p l tb (c : Int) p[c] k fl ((q : Int) - 1) = some fl' ∧ FlatD l.length (valC l p K c) fl' := by
 intro q
 induction q with
 | zero =>
  intro k fl h1 hk2 hV
  obtain ⟨k, rfl⟩ := Nat.exists_eq_succ_of_ne_zero (show k ≠ 0 by omega)
  rw [z1x.l2, if_neg (by decide)]
  exact ⟨fl, rfl, hV.all⟩
 | succ q ih =>
  intro k fl h1 hk2 hV
  obtain ⟨k, rfl⟩ := Nat.exists_eq_succ_of_ne_zero (show k ≠ 0 by omega)
  rw [show ((q + 1 : Nat) : Int) - 1 = (q : Int) by omega, z1x.l2, if_pos (by simp), yw l.length (by omega)]
  obtain ⟨fl', e1, e2⟩ := p_d3 hp hset hpl hl hK hk htb (f := q) (by omega) (l.length + 1 - q) q ((((l.length + 1 : Nat) : Int) - (q : Int)).toNat + 2) fl (Nat.le_refl _) (by omega) (by omega) (hV.last q rfl)
  rw [e1]
  simp only [Option.bind_some]
  rw [yr (by omega) (by omega)]
  exact ih k fl' (by omega) (by omega) e2
theorem p_d1 (hp : p.length ≤ 1000) (hset : ∀ u ∈ p, u.2.length ≤ 1000 ∧ u.2.length % 2 = 0) (hpl : ∀ u ∈ p, u.1 ≠ 5 ∧ u.1 ≠ 7) (hl : l.length ≤ 1000) (hK : Kids p K p.length) : ∀ (m k : Nat) (tb : List (List Int)), tb.length + m = p.length → m < k → TfC l.length (valC l p K) tb.length tb → ∃ tb', z1x.l1 p l k tb (tb.length : Int) = some tb' ∧ tb'.length = p.length ∧ TfC l.length (valC l p K) p.length tb' := by
 intro m
 induction m with
 | zero =>
  intro k tb h1 hk htb
  obtain ⟨k, rfl⟩ := Nat.exists_eq_succ_of_ne_zero (show k ≠ 0 by omega)
  rw [z1x.l1, if_neg (by simp; omega)]
  exact ⟨tb, rfl, by omega, by rw [← show tb.length = p.length by omega]; exact htb⟩
 | succ m ih =>
  intro k tb h1 hk htb
  obtain ⟨k, rfl⟩ := Nat.exists_eq_succ_of_ne_zero (show k ≠ 0 by omega)
  have hc : tb.length < p.length := by omega
  have hb : (l.length + 1) * (l.length + 1) ≤ 1001 * 1001 := Nat.mul_le_mul (by omega) (by omega)
  have hw : IntKind.i64.wrap (((l.length + 1 : Nat) : Int) * ((l.length + 1 : Nat) : Int)) = (((l.length + 1) * (l.length + 1) : Nat) : Int) := by
   rw [← Int.natCast_mul]
   exact yr (by omega) (by omega)
  rw [z1x.l1, if_pos (by simp; omega), rd?_at hc]
  simp only [Option.bind_some]
  rw [yw l.length (by omega), hw, mk?_at (by omega)]
  simp only [Option.bind_some]
  rw [yr (n := ((l.length + 1 : Nat) : Int) - 1) (by omega) (by omega)]
  obtain ⟨fl', e1, e2⟩ := p_d2 hp hset hpl hl hK hc htb (l.length + 1) ((((l.length + 1 : Nat) : Int) - 1 - 0).toNat + 2) (List.replicate ((l.length + 1) * (l.length + 1)) 0) (Nat.le_refl _) (by omega) ⟨by simp, fun f t h1 h2 h3 => by omega⟩
  rw [e1]
  simp only [Option.bind_some]
  rw [app?_at (by simp; omega)]
  simp only [Option.bind_some]
  rw [yw tb.length (by omega)]
  have := ih k (tb ++ [fl']) (by simp; omega) (by omega) (by
   rw [List.length_append, List.length_singleton]
   intro d hd
   by_cases hct : d < tb.length
   ·obtain ⟨x, x1, x2⟩ := htb d hct
    exact ⟨x, by rw [List.getElem?_append_left hct]; exact x1, x2⟩
   ·obtain rfl : d = tb.length := by omega
    exact ⟨fl', by rw [List.getElem?_append_right (Nat.le_refl _)]; simp, e2⟩)
  rw [List.length_append, List.length_singleton] at this
  exact this
theorem p_specCounts (hp : p.length ≤ 1000) (hset : ∀ u ∈ p, u.2.length ≤ 1000 ∧ u.2.length % 2 = 0) (hpl : ∀ u ∈ p, u.1 ≠ 5 ∧ u.1 ≠ 7) (hl : l.length ≤ 1000) (hK : Kids p K p.length) : ∃ tb, z1x.f p l = some tb ∧ tb.length = p.length ∧ TfC l.length (valC l p K) p.length tb := by
 obtain ⟨tb, e1, e2, e3⟩ := p_d1 hp hset hpl hl hK p.length (((p.length : Int) - 0).toNat + 2) [] (by simp) (by omega) (fun c hc => by simp at hc)
 refine ⟨tb, ?_, e2, e3⟩
 unfold z1x.f
 rw [show (([] : List (List Int)).length : Int) = 0 from rfl] at e1
 rw [e1]
 rfl
end
def marks (k : Int) (n : Nat) : List Int := (List.range n).map fun i : Nat => k + i
theorem marks_len (k : Int) (n : Nat) : (marks k n).length = n := by simp [marks]
theorem marks_get (k : Int) (n i : Nat) (h : i < n) : (marks k n)[i]? = some (k + i) := by simp [marks, h]
def w_Re (u : (Int) × (List (Int))) : Int := (wL wZ) u.2
def okw_Re (u : (Int) × (List (Int))) : Prop := (okL okZ) u.2
theorem w_Re_pos (u : (Int) × (List (Int))) : 0 ≤ w_Re u := by
 unfold w_Re
 have := (wL_pos wZ_pos) u.2
 omega
theorem p_CountParses (p : List Nd) (l : List Int) (hp : p.length ≤ big) (hq : ∀ u ∈ p, u.2.length ≤ big) (hl : l.length ≤ big) : ∃ r : Int × Bool, z1v.f p l = some r ∧ z1y.f p l = some r := by
 unfold z1v.f z1y.f z07.f z0p.f
 rw [p_implRe p hp hq, p_specPlain p hp hq, p_implPlain p hp]
 simp only [Option.bind_some]
 cases h1 : okRe p with
 | false => exact ⟨(0, false), rfl, rfl⟩
 | true =>
  cases h2 : p.all okPl with
  | false => exact ⟨(0, false), rfl, rfl⟩
  | true =>
   simp only [if_true, Bool.and_self]
   rw [p_areRunes l 40 hl, p_allRunes l hl]
   simp only [Option.bind_some]
   cases h3 : l.all okRune with
   | false =>
    simp only [Bool.and_false, Bool.false_and, Bool.false_eq_true, if_false, Option.bind_some, Bool.not_false, if_true]
    exact ⟨(0, false), rfl, rfl⟩
   | true =>
    simp only [Bool.and_true, Bool.true_and]
    by_cases h4 : (l.length : Int) ≤ 40
    ·have c1 : decide (l.length ≤ 1000) = true := by simp; omega
     have c2 : decide ((l.length : Int) ≤ 40) = true := by simpa using h4
     simp only [c1, c2, if_true, Option.bind_some, Bool.not_true, Bool.false_eq_true, if_false]
     obtain ⟨q1, q2, q3, K, q, q4⟩ := okRe_facts h1
     have hset : ∀ u ∈ p, u.2.length ≤ 1000 ∧ u.2.length % 2 = 0 := fun u hu => ⟨by have := q3 u hu; omega, (q3 u hu).2⟩
     have hne := okPl_ne h2
     obtain ⟨hK, tb, e1, e2, e3⟩ := p_counts (l := l) (by omega) (fun u hu => (hset u hu).1) hne (by omega) q4
     obtain ⟨ts, f1, f2, f3⟩ := p_specCounts (l := l) (by omega) hset hne (by omega) hK
     obtain ⟨rows, g1, g2⟩ := e3 (p.length - 1) (by omega)
     obtain ⟨row, r1, r2⟩ := g2.rd (f := 0) (t := l.length) (by omega) (by omega) (by omega) (by omega)
     obtain ⟨fl, k1, k2⟩ := f3 (p.length - 1) (by omega)
     have k3 := k2.2 0 l.length (by omega) (by omega)
     rw [Nat.zero_mul, Nat.zero_add] at k3
     have hw : IntKind.i64.wrap ((p.length : Int) - 1) = ((p.length - 1 : Nat) : Int) := by rw [yr (by omega) (by omega)]; omega
     rw [e1, f1]
     simp only [Option.bind_some]
     rw [hw, rd?_get' g1, rd?_get' k1]
     simp only [Option.bind_some]
     rw [rd?_get' k3]
     rw [show rd? rows 0 = some row from r1]
     simp only [Option.bind_some]
     rw [r2]
     exact ⟨_, rfl, rfl⟩
    ·have c2 : decide ((l.length : Int) ≤ 40) = false := by simpa using h4
     by_cases h5 : l.length ≤ 1000
     ·have c1 : decide (l.length ≤ 1000) = true := by simpa using h5
      simp only [c1, c2, if_true, Option.bind_some, Bool.not_false]
      exact ⟨(0, false), rfl, rfl⟩
     ·have c1 : decide (l.length ≤ 1000) = false := by simpa using h5
      simp only [c1, c2, Bool.false_eq_true, if_false, Option.bind_some, Bool.not_false, if_true]
      exact ⟨(0, false), rfl, rfl⟩
theorem cut0 {x : List Int} {n : Nat} (h : n ≤ x.length) : cut? x 0 (n : Int) = some (x.take n) := by
 have := cut?_at (xs := x) (a := 0) (b := n) (by omega) h
 rw [show ((0 : Nat) : Int) = 0 from rfl] at this
 simpa using this
theorem cutE {x : List Int} {n : Nat} (h : n ≤ x.length) : cut? x (n : Int) (x.length : Int) = some (x.drop n) := by
 have := cut?_at (xs := x) (a := n) (b := x.length) h (by omega)
 simpa using this
/-- The bytes of a rune. -/
def u8s (r : Int) : List Int := if r < 128 then [r] else if r < 2048 then [192 + r / 64, 128 + r % 64] else if r < 65536 then [224 + r / 4096, 128 + r / 64 % 64, 128 + r % 64] else [240 + r / 262144, 128 + r / 4096 % 64, 128 + r / 64 % 64, 128 + r % 64]
theorem u8s_len (r : Int) : (u8s r).length ≤ 4 := by
 unfold u8s
 split
 ·simp
 ·split
  ·simp
  ·split <;> simp
theorem bytes_text : ∀ (xs : List Int), (∀ u ∈ xs, 0 ≤ u ∧ u < 256) → bytesB (textB xs) = xs := by
 have key : ∀ (xs : List Int) (s : ByteArray), (∀ u ∈ xs, 0 ≤ u ∧ u < 256) → bytesB (xs.foldl (fun s n => s.push (UInt8.ofNat n.toNat)) s) = bytesB s ++ xs := by
  intro xs
  induction xs with
  | nil => intro s _; simp
  | cons x xs ih =>
   intro s h
   obtain ⟨h0, h1⟩ := h x (by simp)
   rw [List.foldl_cons, ih _ fun v hv => h v (List.mem_cons_of_mem _ hv)]
   have e : bytesB (s.push (UInt8.ofNat x.toNat)) = bytesB s ++ [x] := by
    unfold bytesB
    simp [ByteArray.push]
    omega
   rw [e, List.append_assoc]
   rfl
 intro xs h
 unfold textB
 rw [key xs _ h]
 rfl
theorem quo_pos {r n : Int} (h0 : 0 ≤ r) (h1 : r ≤ 2000000) (hn : 1 ≤ n) (hn2 : n ≤ 1000000) : quo? .i64 r n = some (r / n) := by
 unfold quo?
 have h2 : r / n ≤ r := Int.ediv_le_self _ h0
 have h3 : 0 ≤ r / n := Int.ediv_nonneg h0 (by omega)
 rw [if_neg (by omega), Int.tdiv_eq_ediv_of_nonneg h0, yr (by omega) (by omega)]
theorem rem_pos {r n : Int} (h0 : 0 ≤ r) (hn : 1 ≤ n) : rem? r n = some (r % n) := by
 unfold rem?
 rw [if_neg (by omega), Int.tmod_eq_emod_of_nonneg h0]
theorem w8 {n : Int} (h0 : 0 ≤ n) (h1 : n ≤ 255) : IntKind.u8.wrap n = n := by rw [IntKind.wrap_u8]; omega
theorem u8s_in {r : Int} (h0 : 0 ≤ r) (h1 : r ≤ 1114111) : ∀ u ∈ u8s r, 0 ≤ u ∧ u < 256 := by
 unfold u8s
 intro u hu
 split at hu
 ·simp at hu; omega
 ·split at hu
  ·simp at hu; omega
  ·split at hu
   ·simp at hu; omega
   ·simp at hu; omega
theorem b_and63 (n : Int) (h0 : 0 ≤ n) (h1 : n < 256) : bits .and .u8 n 63 = n % 64 := by
 obtain ⟨k, rfl⟩ := Int.eq_ofNat_of_zero_le h0
 have : ∀ k : Nat, k < 256 → bits .and .u8 (k : Int) 63 = (k : Int) % 64 := by decide +kernel
 exact this k (by omega)
theorem b_or128 (n : Int) (h0 : 0 ≤ n) (h1 : n < 64) : bits .or .u8 128 n = 128 + n := by
 obtain ⟨k, rfl⟩ := Int.eq_ofNat_of_zero_le h0
 have : ∀ k : Nat, k < 64 → bits .or .u8 128 (k : Int) = 128 + (k : Int) := by decide +kernel
 exact this k (by omega)
theorem b_or192 (n : Int) (h0 : 0 ≤ n) (h1 : n < 32) : bits .or .u8 192 n = 192 + n := by
 obtain ⟨k, rfl⟩ := Int.eq_ofNat_of_zero_le h0
 have : ∀ k : Nat, k < 32 → bits .or .u8 192 (k : Int) = 192 + (k : Int) := by decide +kernel
 exact this k (by omega)
theorem b_or224 (n : Int) (h0 : 0 ≤ n) (h1 : n < 16) : bits .or .u8 224 n = 224 + n := by
 obtain ⟨k, rfl⟩ := Int.eq_ofNat_of_zero_le h0
 have : ∀ k : Nat, k < 16 → bits .or .u8 224 (k : Int) = 224 + (k : Int) := by decide +kernel
 exact this k (by omega)
theorem b_or240 (n : Int) (h0 : 0 ≤ n) (h1 : n < 8) : bits .or .u8 240 n = 240 + n := by
 obtain ⟨k, rfl⟩ := Int.eq_ofNat_of_zero_le h0
 have : ∀ k : Nat, k < 8 → bits .or .u8 240 (k : Int) = 240 + (k : Int) := by decide +kernel
 exact this k (by omega)
theorem b_cont (q : Int) : bits .or .u8 128 (bits .and .u8 (IntKind.u8.wrap q) 63) = 128 + q % 64 := by
 have e : IntKind.u8.wrap q = q % 256 := by rw [IntKind.wrap_u8]
 rw [e, b_and63 _ (by omega) (by omega), b_or128 _ (by omega) (by omega)]
 omega
theorem shr32 (r : Int) (k : Nat) (hk : k ≤ 20) : shrK? .i32 r (k : Int) = some (r / 2 ^ k) := by
 unfold shrK?
 have e : min ((k : Int)).toNat IntKind.i32.bits = k := by
  have : IntKind.i32.bits = 32 := rfl
  rw [this]
  omega
 rw [if_pos (by omega), e, Int.fdiv_eq_ediv_of_nonneg _ (by exact Int.pow_nonneg (by omega))]
theorem baT (b : ByteArray) : b.toList = b.data.toList := by
 have key : ∀ (k i : Nat) (r : List UInt8), b.size - i ≤ k → ByteArray.toList.loop b i r = r.reverse ++ b.data.toList.drop i := by
  intro k
  induction k with
  | zero =>
   intro i r h
   rw [ByteArray.toList.loop]
   rw [if_neg (by omega)]
   rw [List.drop_of_length_le (by simp; have : b.data.size = b.size := rfl; omega)]
   simp
  | succ k ih =>
   intro i r h
   rw [ByteArray.toList.loop]
   by_cases hi : i < b.size
   ·rw [if_pos hi, ih (i+1) _ (by omega)]
    have hs : i < b.data.toList.length := by simpa using hi
    rw [List.drop_eq_getElem_cons hs]
    have e : b.get! i = b.data.toList[i] := by
     have h2 : i < b.data.size := hi
     show b.data[i]! = _
     rw [getElem!_pos b.data i h2]
     simp
    simp [e]
   ·rw [if_neg hi, List.drop_of_length_le (by simp; have : b.data.size = b.size := rfl; omega)]
    simp
 have := key b.size 0 [] (by omega)
 simpa [ByteArray.toList] using this
theorem baInj {a b : ByteArray} : (a.toList == b.toList) = decide (a = b) := by
 rw [baT, baT, Bool.eq_iff_iff]
 simp only [beq_iff_eq, decide_eq_true_eq]
 constructor
 ·intro h
  obtain ⟨⟨x⟩⟩ := a
  obtain ⟨⟨y⟩⟩ := b
  simp at h
  rw [h]
 ·rintro rfl; rfl
theorem rdS_at (S : ByteArray) (i : Nat) : rdS? S (i : Int) = (bytesB S)[i]? := by
 unfold rdS? bytesB
 rw [if_pos (by omega), List.getElem?_map, Array.getElem?_toList]
 rfl
theorem bytesB_inj {a b : ByteArray} (h : bytesB a = bytesB b) : a = b := by
 obtain ⟨⟨x⟩⟩ := a
 obtain ⟨⟨y⟩⟩ := b
 unfold bytesB at h
 have h2 : x = y := by
  have key : ∀ x y : List UInt8, x.map (fun b : UInt8 => (b.toNat : Int)) = y.map (fun b : UInt8 => (b.toNat : Int)) → x = y := by
   intro x
   induction x with
   | nil => intro y h; cases y with
    | nil => rfl
    | cons _ _ => cases h
   | cons u x ih =>
    intro y h
    cases y with
    | nil => cases h
    | cons v y =>
     simp only [List.map_cons, List.cons.injEq] at h
     have : u = v := UInt8.toNat_inj.1 (by omega)
     rw [this, ih y h.2]
  exact key x y h
 rw [h2]
theorem strB (a b : ByteArray) : (a.toList == b.toList) = decide (bytesB a = bytesB b) := by
 rw [baInj, Bool.eq_iff_iff]
 simp only [decide_eq_true_eq]
 exact ⟨fun h => by rw [h], bytesB_inj⟩
theorem bytes_rng (S : ByteArray) : ∀ u ∈ bytesB S, 0 ≤ u ∧ u < 256 := by
 unfold bytesB
 intro u hu
 obtain ⟨b, _, rfl⟩ := List.mem_map.1 hu
 have := b.toNat_lt
 omega
theorem bytes_nil : bytesB (⟨#[]⟩ : ByteArray) = [] := rfl
theorem size_bytes (S : ByteArray) : S.size = (bytesB S).length := (bytesB_len S).symm
theorem cutS_at (S : ByteArray) {a b : Nat} (h1 : a ≤ b) (h2 : b ≤ S.size) : ∃ T, cutS? S (a : Int) (b : Int) = some T ∧ bytesB T = ((bytesB S).take b).drop a := by
 unfold cutS?
 rw [if_pos ⟨by omega, by omega, by omega⟩]
 refine ⟨_, rfl, ?_⟩
 unfold bytesB
 simp [ByteArray.data_extract, List.extract_eq_take_drop, List.map_drop, List.map_take, List.drop_take]
theorem cat_at {n : Nat} {a b : ByteArray} (h : a.size + b.size ≤ n) : ∃ c, cat? n a b = some c ∧ bytesB c = bytesB a ++ bytesB b := by
 unfold cat?
 rw [if_pos h]
 refine ⟨_, rfl, ?_⟩
 unfold bytesB
 simp
theorem wrapU (n : Int) : 0 ≤ IntKind.u64.wrap n ∧ IntKind.u64.wrap n < 18446744073709551616 := by rw [IntKind.wrap_u64]; omega
theorem p_next (code : List Int) (hc : allW (inK .u8) code) (a s : Int) (h0 : 0 ≤ a) (h1 : a ≤ 1000000000000000) : ∃ n s', z1.f code a s = some (n, a + 1, s') ∧ 0 ≤ n ∧ n ≤ 255 := by
 unfold z1.f
 have key : ∃ x : Int, (if (decide (a < (code.length : Int))) = true then ((rd? code a).bind fun u10 => some (IntKind.i64.wrap u10)) else (some 0)) = some x ∧ 0 ≤ x ∧ x ≤ 255 := by
  obtain ⟨k, rfl⟩ := Int.eq_ofNat_of_zero_le h0
  by_cases h : k < code.length
  ·rw [if_pos (by simpa using h), rd?_at h]
   have hb : -0 ≤ code[k] ∧ code[k] ≤ 255 := by
    have := hc.2 _ (List.getElem_mem h)
    exact this
   simp only [Option.bind_some]
   rw [yr (by omega) (by omega)]
   exact ⟨_, rfl, by omega, by omega⟩
  ·rw [if_neg (by simpa using h)]
   exact ⟨0, rfl, by omega, by omega⟩
 obtain ⟨x, e, x0, x1⟩ := key
 rw [e]
 simp only [Option.bind_some]
 rw [yr (n := a + 1) (by omega) (by omega)]
 generalize IntKind.u64.wrap (IntKind.u64.wrap (IntKind.u64.wrap (s * 6364136223846793005) + IntKind.u64.wrap x) + 1442695040888963407) = y
 by_cases h : a + 1 ≤ (code.length : Int)
 ·rw [if_pos (by simpa using h)]
  exact ⟨x, y, rfl, x0, x1⟩
 ·rw [if_neg (by simpa using h)]
  have hs : ∃ q, shrK? .u64 y 40 = some q := ⟨_, by unfold shrK?; rw [if_pos (by decide)]⟩
  obtain ⟨q, hq⟩ := hs
  rw [hq]
  simp only [Option.bind_some]
  have hb : 0 ≤ bits .and .u64 q 255 ∧ bits .and .u64 q 255 ≤ 255 := by
   unfold bits
   dsimp only
   have : (BitVec.ofInt IntKind.u64.bits q &&& BitVec.ofInt IntKind.u64.bits 255).toNat ≤ 255 := by
    rw [BitVec.toNat_and]
    exact Nat.le_trans Nat.and_le_right (by decide)
   rw [IntKind.wrap_u64]
   omega
  rw [yr (by omega) (by omega)]
  exact ⟨_, y, rfl, hb.1, hb.2⟩
theorem p_pick (code : List Int) (hc : allW (inK .u8) code) (a s n : Int) (h0 : 0 ≤ a) (h1 : a ≤ 1000000000000) : ∃ r a' s', z2.f code a s n = some (r, a', s') ∧ 0 ≤ r ∧ (1 ≤ n → r < n) ∧ (n ≤ 1 → r = 0) ∧ r ≤ 65535 ∧ a ≤ a' ∧ a' ≤ a + 2 := by
 unfold z2.f
 by_cases hn : n ≤ 1
 ·rw [if_pos (by simpa using hn)]
  exact ⟨0, a, s, rfl, by omega, by omega, by omega, by omega, by omega, by omega⟩
 ·rw [if_neg (by simpa using hn)]
  obtain ⟨x, s1, e1, x0, x1⟩ := p_next code hc a s h0 (by omega)
  rw [e1]
  simp only [Option.bind_some]
  have key : ∀ (v a' s' : Int), 0 ≤ v → v ≤ 65535 → a ≤ a' → a' ≤ a + 2 → ∃ r b' t', (rem? v n).bind (fun u20 => some (u20, a', s')) = some (r, b', t') ∧ 0 ≤ r ∧ (1 ≤ n → r < n) ∧ (n ≤ 1 → r = 0) ∧ r ≤ 65535 ∧ a ≤ b' ∧ b' ≤ a + 2 := by
   intro v a' s' v0 v1 b0 b1
   unfold rem?
   rw [if_neg (by omega)]
   have e := Int.tmod_eq_emod_of_nonneg (b := n) v0
   have hb := Int.emod_lt_of_pos v (show 0 < n by omega)
   have hb0 := Int.emod_nonneg v (show n ≠ 0 by omega)
   have hb1 : v % n ≤ v := by
    by_cases hvn : v < n
    ·rw [Int.emod_eq_of_lt v0 hvn]; exact Int.le_refl _
    ·omega
   rw [e]
   exact ⟨_, a', s', rfl, hb0, fun _ => hb, by omega, by omega, b0, b1⟩
  by_cases h2 : n > 200
  ·rw [if_pos (by simpa using h2)]
   obtain ⟨y, s2, e2, y0, y1⟩ := p_next code hc (a + 1) s1 (by omega) (by omega)
   rw [e2]
   simp only [Option.bind_some]
   rw [yr (n := x * 256) (by omega) (by omega), yr (by omega) (by omega)]
   exact key (x * 256 + y) (a + 1 + 1) s2 (by omega) (by omega) (by omega) (by omega)
  ·rw [if_neg (by simpa using h2)]
   exact key x (a + 1) s1 (by omega) (by omega) (by omega) (by omega)
/-- A step that ends, and what holds of its end. -/
def Tt {α : Type} (X : Option α) (Φ : α → Prop) : Prop := ∃ r, X = some r ∧ Φ r
theorem Tt.bind {α β : Type} {X : Option α} {f : α → Option β} {Φ : α → Prop} {Ψ : β → Prop} (h : Tt X Φ) (k : ∀ r, Φ r → Tt (f r) Ψ) : Tt (X.bind f) Ψ := by
 obtain ⟨r, rfl, hr⟩ := h
 exact k r hr
theorem Tt.one {α : Type} {r : α} {Φ : α → Prop} (h : Φ r) : Tt (some r) Φ := ⟨r, rfl, h⟩
theorem Tt.ite {α : Type} {c : Prop} [Decidable c] {X Y : Option α} {Φ : α → Prop} (h1 : c → Tt X Φ) (h2 : ¬ c → Tt Y Φ) : Tt (if c then X else Y) Φ := by
 by_cases h : c
 ·rw [if_pos h]; exact h1 h
 ·rw [if_neg h]; exact h2 h
theorem Tt.mono {α : Type} {X : Option α} {Φ Ψ : α → Prop} (h : Tt X Φ) (k : ∀ r, Φ r → Ψ r) : Tt X Ψ := by
 obtain ⟨r, e, hr⟩ := h
 exact ⟨r, e, k r hr⟩
theorem Tt.cat {n : Nat} {a b : ByteArray} (h : a.size + b.size ≤ n) : Tt (cat? n a b) fun c => c.size = a.size + b.size := by
 obtain ⟨c, e, hc⟩ := cat_at h
 refine ⟨c, e, ?_⟩
 show c.size = a.size + b.size
 rw [size_bytes c, hc, List.length_append, ← size_bytes, ← size_bytes]
theorem Tt.cutS {S : ByteArray} {a b : Int} (h0 : 0 ≤ a) (h1 : a ≤ b) (h2 : b ≤ S.size) : Tt (cutS? S a b) fun c => (c.size : Int) = b - a := by
 obtain ⟨a, rfl⟩ := Int.eq_ofNat_of_zero_le h0
 obtain ⟨b, rfl⟩ := Int.eq_ofNat_of_zero_le (show 0 ≤ b by omega)
 have hb : b ≤ (bytesB S).length := by rw [← size_bytes]; omega
 obtain ⟨T, e, hT⟩ := cutS_at S (a := a) (b := b) (by omega) (by omega)
 refine ⟨T, e, ?_⟩
 show (T.size : Int) = _
 rw [size_bytes T, hT, List.length_drop, List.length_take]
 omega
theorem Tt.rd {α : Type} {xs : List α} {i : Int} (h0 : 0 ≤ i) (h : i < xs.length) : Tt (rd? xs i) fun r => r ∈ xs := by
 obtain ⟨k, rfl⟩ := Int.eq_ofNat_of_zero_le h0
 have hk : k < xs.length := by omega
 exact ⟨_, rd?_at hk, List.getElem_mem hk⟩
theorem Tt.app {α : Type} {n : Nat} {xs ys : List α} (h : xs.length + ys.length ≤ n) : Tt (app? n xs ys) fun r => r = xs ++ ys := ⟨_, app?_at h, rfl⟩
theorem Tt.quo {k : IntKind} {x y : Int} (h : y ≠ 0) : Tt (quo? k x y) fun _ => True := ⟨_, if_neg h, trivial⟩
theorem Tt.rem {x y : Int} (h : y ≠ 0) : Tt (rem? x y) fun _ => True := ⟨_, if_neg h, trivial⟩
theorem size_text (xs : List Int) : (textB xs).size = xs.length := by
 have key : ∀ (xs : List Int) (s : ByteArray), (xs.foldl (fun s n => s.push (UInt8.ofNat n.toNat)) s).size = s.size + xs.length := by
  intro xs
  induction xs with
  | nil => intro s; rfl
  | cons x xs ih =>
   intro s
   rw [List.foldl_cons, ih, List.length_cons, ByteArray.size_push]
   omega
 exact (key xs .empty).trans (Nat.zero_add _)
theorem t_next {code : List Int} (hc : allW (inK .u8) code) {a s : Int} (h0 : 0 ≤ a) (h1 : a ≤ 1000000000000) : Tt (z1.f code a s) fun r => 0 ≤ r.1 ∧ r.1 ≤ 255 ∧ r.2.1 = a + 1 := by
 obtain ⟨n, s', e, x, y⟩ := p_next code hc a s h0 (by omega)
 exact ⟨_, e, x, y, rfl⟩
theorem t_pick {code : List Int} (hc : allW (inK .u8) code) {a s n : Int} (h0 : 0 ≤ a) (h1 : a ≤ 1000000000000) : Tt (z2.f code a s n) fun r => 0 ≤ r.1 ∧ (1 ≤ n → r.1 < n) ∧ (n ≤ 1 → r.1 = 0) ∧ r.1 ≤ 65535 ∧ a ≤ r.2.1 ∧ r.2.1 ≤ a + 2 := by
 obtain ⟨r, a', s', e, x1, x2, x3, x4, x5, x6⟩ := p_pick code hc a s n h0 h1
 exact ⟨_, e, x1, x2, x3, x4, x5, x6⟩
theorem p_among (code : List Int) (hc : allW (inK .u8) code) (a s : Int) (l : List Int) (hl : l ≠ []) (h0 : 0 ≤ a) (h1 : a ≤ 1000000000000) : ∃ r a' s', z4.f code a s l = some (r, a', s') ∧ r ∈ l ∧ a ≤ a' ∧ a' ≤ a + 2 := by
 unfold z4.f
 have hp : 0 < l.length := List.length_pos_iff.2 hl
 obtain ⟨r, a', s', e, r0, r1, _, _, b0, b1⟩ := p_pick code hc a s (l.length : Int) h0 h1
 rw [e]
 simp only [Option.bind_some]
 obtain ⟨k, rfl⟩ := Int.eq_ofNat_of_zero_le r0
 have hk : k < l.length := by have := r1 (by omega); omega
 rw [rd?_at hk]
 exact ⟨_, a', s', rfl, List.getElem_mem hk, b0, b1⟩
theorem t_among {code : List Int} (hc : allW (inK .u8) code) {a s : Int} {l : List Int} (hl : l ≠ []) (h0 : 0 ≤ a) (h1 : a ≤ 1000000000000) : Tt (z4.f code a s l) fun r => r.1 ∈ l ∧ a ≤ r.2.1 ∧ r.2.1 ≤ a + 2 := by
 obtain ⟨r, a', s', e, x1, x2, x3⟩ := p_among code hc a s l hl h0 h1
 exact ⟨_, e, x1, x2, x3⟩
theorem p_one (code : List Int) (hc : allW (inK .u8) code) (a s n : Int) (h0 : 0 ≤ a) (h1 : a ≤ 1000000000000) : ∃ (r : Bool) (a' s' : Int), z3.f code a s n = some (r, a', s') ∧ a ≤ a' ∧ a' ≤ a + 2 := by
 unfold z3.f
 obtain ⟨r, a', s', e, _, _, _, _, b0, b1⟩ := p_pick code hc a s n h0 h1
 rw [e]
 exact ⟨_, a', s', rfl, b0, b1⟩
theorem t_one {code : List Int} (hc : allW (inK .u8) code) {a s n : Int} (h0 : 0 ≤ a) (h1 : a ≤ 1000000000000) : Tt (z3.f code a s n) fun r => a ≤ r.2.1 ∧ r.2.1 ≤ a + 2 := by
 obtain ⟨r, a', s', e, x1, x2⟩ := p_one code hc a s n h0 h1
 exact ⟨_, e, x1, x2⟩
theorem p_least (a b : Int) : z5.f a b = some (min a b) := by
 unfold z5.f
 by_cases h : a < b
 ·rw [if_pos (by simpa using h), Int.min_eq_left (by omega)]
 ·rw [if_neg (by simpa using h), Int.min_eq_right (by omega)]
theorem p_own (x : List Int) (hx : x.length ≤ big) : z7.f x = some x := by
 unfold z7.f
 unfold big at hx
 rw [app?_at (by simpa using hx)]
 rfl
theorem p_clone (x : List Int) (hx : x.length ≤ big) : zw.f x = some x := by
 unfold zw.f
 unfold big at hx
 rw [app?_at (by simpa using hx)]
 rfl
theorem p_most2 (a b : Int) : Tt (z6.f a b) fun _ => True := by
 unfold z6.f
 exact Tt.ite (fun _ => .one trivial) (fun _ => .one trivial)
theorem t_least (a b : Int) : Tt (z5.f a b) fun _ => True := ⟨_, p_least a b, trivial⟩
theorem t_l4Add (p : List Int) (a b : Int) (hp : p.length ≤ 1000) (he : p.length % 2 = 0) : Tt (z8.f p a b) fun r => r.length ≤ p.length + 2 ∧ r.length % 2 = 0 := by
 unfold z8.f
 have k1 : ∀ (k i : Nat) (a b : Int) (out : List Int), i ≤ p.length → p.length - i < k → i % 2 = 0 → out.length ≤ i → out.length % 2 = 0 → Tt (z8.l1 p k a b out i) fun r => r.2.2.length ≤ p.length ∧ r.2.2.length % 2 = 0 := by
  intro k
  induction k with
  | zero => intro i a b out _ h; omega
  | succ k ih =>
   intro i a b out hi hk h2 ho ho2
   rw [z8.l1]
   refine Tt.ite (fun h => ?_) (fun _ => .one ⟨by dsimp only; omega, ho2⟩)
   have h : i < p.length := by have := of_decide_eq_true h; omega
   rw [yw i (by omega)]
   have g1 : Tt (rd? p (i : Int)) fun _ => True := (Tt.rd (by omega) (by omega)).mono fun _ _ => trivial
   have g2 : Tt (rd? p ((i + 1 : Nat) : Int)) fun _ => True := (Tt.rd (by omega) (by omega)).mono fun _ _ => trivial
   refine Tt.bind (Φ := fun o : Int × Int × List Int => o.2.2.length ≤ i + 2 ∧ o.2.2.length % 2 = 0) ?_ fun o ho' => ?_
   ·refine Tt.bind (Φ := fun _ => True) (g2.bind fun _ _ => Tt.ite (fun _ => .one trivial) (fun _ => g1.bind fun _ _ => .one trivial)) fun o _ => Tt.ite (fun _ => ?_) (fun _ => ?_)
    ·exact g1.bind fun _ _ => g2.bind fun _ _ => (Tt.app (by simp; omega)).bind fun x hx => .one (by subst hx; simp; omega)
    ·exact g1.bind fun _ _ => (t_least _ _).bind fun _ _ => g2.bind fun _ _ => (p_most2 _ _).bind fun _ _ => .one ⟨by dsimp only; omega, ho2⟩
   ·obtain ⟨x, y, z⟩ := o
    dsimp only at *
    rw [yr (by omega) (by omega), show ((i : Int) + 2) = ((i + 2 : Nat) : Int) by omega]
    exact ih (i + 2) x y z (by omega) (by omega) (by omega) ho'.1 ho'.2
 refine (k1 _ 0 a b [] (by omega) (by omega) rfl (by simp) rfl).bind fun o ho => ?_
 obtain ⟨x, y, z⟩ := o
 dsimp only at *
 have k2 : ∀ (k i : Nat), i ≤ z.length → z.length - i < k → i % 2 = 0 → Tt (z8.l2 x z k i) fun r => 0 ≤ r ∧ r ≤ z.length ∧ r % 2 = 0 := by
  intro k
  induction k with
  | zero => intro i _ h; omega
  | succ k ih =>
   intro i hi hk h2
   rw [z8.l2]
   refine Tt.bind (Φ := fun b => b = true → i < z.length) (Tt.ite (fun h => ?_) (fun _ => .one fun h => by cases h)) fun b hb => ?_
   ·have h : i < z.length := by have := of_decide_eq_true h; omega
    exact (Tt.rd (by omega) (by omega)).bind fun _ _ => .one fun _ => h
   ·refine Tt.ite (fun h => ?_) (fun _ => .one ⟨by omega, by omega, by omega⟩)
    have h := hb h
    rw [yr (by omega) (by omega), show ((i : Int) + 2) = ((i + 2 : Nat) : Int) by omega]
    exact ih (i + 2) (by omega) (by omega) (by omega)
 refine (k2 _ 0 (by omega) (by omega) rfl).bind fun q hq => ?_
 obtain ⟨q, rfl⟩ := Int.eq_ofNat_of_zero_le hq.1
 have c1 : cut? z 0 (q : Int) = some (z.take q) := cut0 (by omega)
 have c2 : cut? z (q : Int) (z.length : Int) = some (z.drop q) := cutE (by omega)
 rw [c1, c2]
 refine (Tt.one (Φ := fun w => w = z.take q) rfl).bind fun w hw => ?_
 subst hw
 rw [p_own _ (by unfold big; simp; omega)]
 refine (Tt.one (Φ := fun w => w = z.take q) rfl).bind fun w hw => ?_
 subst hw
 refine (Tt.app (by simp; omega)).bind fun w hw => ?_
 subst hw
 refine (Tt.one (Φ := fun w => w = z.drop q) rfl).bind fun w hw => ?_
 subst hw
 refine (Tt.app (by simp; omega)).bind fun w hw => .one ?_
 subst hw
 simp
 omega
theorem t_l4Not (p : List Int) (hp : p.length ≤ 1000) (he : p.length % 2 = 0) : Tt (z9.f p) fun r => r.length ≤ p.length + 2 ∧ r.length % 2 = 0 := by
 unfold z9.f
 have k1 : ∀ (k i : Nat) (a : Int) (out : List Int), i ≤ p.length → p.length - i < k → i % 2 = 0 → out.length ≤ i → out.length % 2 = 0 → Tt (z9.l1 p k out a i) fun r => r.1.length ≤ p.length ∧ r.1.length % 2 = 0 := by
  intro k
  induction k with
  | zero => intro i a out _ h; omega
  | succ k ih =>
   intro i a out hi hk h2 ho ho2
   rw [z9.l1]
   refine Tt.ite (fun h => ?_) (fun _ => .one ⟨by dsimp only; omega, ho2⟩)
   have h : i < p.length := by have := of_decide_eq_true h; omega
   rw [yw i (by omega)]
   have g1 : Tt (rd? p (i : Int)) fun _ => True := (Tt.rd (by omega) (by omega)).mono fun _ _ => trivial
   have g2 : Tt (rd? p ((i + 1 : Nat) : Int)) fun _ => True := (Tt.rd (by omega) (by omega)).mono fun _ _ => trivial
   refine Tt.bind (Φ := fun o : List Int => o.length ≤ i + 2 ∧ o.length % 2 = 0) ?_ fun o ho' => ?_
   ·refine g1.bind fun _ _ => Tt.ite (fun _ => ?_) (fun _ => .one ⟨by omega, ho2⟩)
    exact g1.bind fun _ _ => (Tt.app (by simp; omega)).bind fun x hx => .one (by subst hx; simp; omega)
   ·refine g2.bind fun _ _ => ?_
    rw [yr (n := (i : Int) + 2) (by omega) (by omega), show ((i : Int) + 2) = ((i + 2 : Nat) : Int) by omega]
    exact ih (i + 2) _ o (by omega) (by omega) (by omega) ho'.1 ho'.2
 refine (k1 _ 0 0 [] (by omega) (by omega) rfl (by simp) rfl).bind fun o ho => ?_
 obtain ⟨x, y⟩ := o
 dsimp only at *
 refine Tt.bind (Φ := fun o : List Int => o.length ≤ p.length + 2 ∧ o.length % 2 = 0) (Tt.ite (fun _ => ?_) (fun _ => .one ⟨by omega, ho.2⟩)) fun o ho => .one ho
 exact (Tt.app (by simp; omega)).bind fun x hx => .one (by subst hx; simp; omega)
theorem Tt.st {α : Type} {xs : List α} {i : Int} {x : α} (h0 : 0 ≤ i) (h : i < xs.length) : Tt (st? xs i x) fun r => r.length = xs.length ∧ ∀ y ∈ r, y = x ∨ y ∈ xs := by
 obtain ⟨k, rfl⟩ := Int.eq_ofNat_of_zero_le h0
 have hk : k < xs.length := by omega
 refine ⟨_, st?_at x hk, by simp, fun y hy => ?_⟩
 rcases List.mem_or_eq_of_mem_set hy with h | h
 ·exact .inr h
 ·exact .inl h
theorem t_set {code : List Int} (hc : allW (inK .u8) code) {a s : Int} (h0 : 0 ≤ a) (h1 : a ≤ 100000000000) : Tt (za.f code a s) fun r => r.1.length ≤ 20 ∧ a ≤ r.2.1 ∧ r.2.1 ≤ a + 40 := by
 unfold za.f
 refine (t_pick hc h0 (by omega)).bind fun x hx => ?_
 have key : ∀ (n f : Nat) (l : List Int) (a s : Int), n < f → 0 ≤ a → a + 4 * n ≤ 1000000000000 → l.length + 2 * n ≤ 100 → l.length % 2 = 0 → Tt (za.l1 code f l (n : Int) a s) fun r => r.1.length ≤ l.length + 2 * n ∧ r.1.length % 2 = 0 ∧ a ≤ r.2.1 ∧ r.2.1 ≤ a + 4 * n := by
  intro n
  induction n with
  | zero =>
   intro f l a s hf ha ha2 hl he
   obtain ⟨f, rfl⟩ := Nat.exists_eq_succ_of_ne_zero (show f ≠ 0 by omega)
   rw [za.l1, if_neg (by simp)]
   exact .one ⟨by dsimp only; omega, he, by dsimp only; omega, by dsimp only; omega⟩
  | succ n ih =>
   intro f l a s hf ha ha2 hl he
   obtain ⟨f, rfl⟩ := Nat.exists_eq_succ_of_ne_zero (show f ≠ 0 by omega)
   rw [za.l1, if_pos (by simp <;> omega)]
   refine (t_among hc (by decide) ha (by omega)).bind fun x hx => (t_among hc (by decide) (by omega) (by omega)).bind fun y hy => (t_least _ _).bind fun z _ => (t_l4Add l _ _ (by omega) he).bind fun w hw => ?_
   rw [yr (by omega) (by omega), show ((n + 1 : Nat) : Int) - 1 = (n : Int) by omega]
   exact (ih f w _ _ (by omega) (by omega) (by omega) (by omega) hw.2).mono fun r hr => ⟨by omega, hr.2.1, by omega, by omega⟩
 obtain ⟨n, b1, s1⟩ := x
 dsimp only at *
 obtain ⟨n, rfl⟩ := Int.eq_ofNat_of_zero_le hx.1
 have hn := hx.2.1 (by decide)
 refine (key n _ [] b1 s1 (by omega) (by omega) (by omega) (by simp; omega) rfl).bind fun o ho => ?_
 obtain ⟨l, a2, s2⟩ := o
 dsimp only at *
 rw [List.length_nil] at ho
 refine Tt.bind (Φ := fun r : List Int × Int × Int => r.1.length ≤ 20 ∧ a ≤ r.2.1 ∧ r.2.1 ≤ a + 20) ?_ fun o ho => ?_
 ·refine (t_one hc (by omega) (by omega)).bind fun x hx => Tt.ite (fun _ => ?_) (fun _ => .one ⟨by dsimp only; omega, by dsimp only; omega, by dsimp only; omega⟩)
  exact (t_l4Not l (by omega) ho.2.1).bind fun y hy => .one ⟨by dsimp only; omega, by dsimp only; omega, by dsimp only; omega⟩
 obtain ⟨l, a2, s2⟩ := o
 dsimp only at *
 refine Tt.bind (Φ := fun r : List Int × Int × Int => r.1.length ≤ 20 ∧ a ≤ r.2.1 ∧ r.2.1 ≤ a + 40) ?_ fun o ho => .one ho
 refine Tt.bind (Φ := fun r : Bool × Int × Int => (r.1 = true → 0 < l.length) ∧ a ≤ r.2.1 ∧ r.2.1 ≤ a + 30) (Tt.ite (fun h => ?_) (fun _ => .one ⟨(by intro h; cases h), by dsimp only; omega, by dsimp only; omega⟩)) fun o ho => ?_
 ·exact (t_one hc (by omega) (by omega)).bind fun y hy => .one ⟨fun _ => by have := of_decide_eq_true h; omega, by dsimp only; omega, by dsimp only; omega⟩
 ·obtain ⟨b, a', s'⟩ := o
  dsimp only at *
  refine Tt.ite (fun hb => ?_) (fun _ => .one ⟨by dsimp only; omega, by dsimp only; omega, by dsimp only; omega⟩)
  have hl := ho.1 hb
  exact (t_among hc (by decide) (by omega) (by omega)).bind fun y hy => (Tt.rd (by decide) (by omega)).bind fun _ _ => (Tt.st (by decide) (by omega)).bind fun w hw => .one ⟨by dsimp only; omega, by dsimp only; omega, by dsimp only; omega⟩
def runeR : List Int := [97, 98, 99, 120, 32, 49, 10, 0, 127, 128, 228, 769, 770, 2047, 2048, 4352, 4449, 12354, 44032, 55295, 57344, 65533, 65536, 128512, 1114111]
theorem runeR_ok : ∀ u ∈ runeR, okRune u = true := by decide
/-- A pattern of few nodes with small sets. -/
def smRe (n : Nat) (p : List Nd) : Prop := p.length ≤ n ∧ ∀ u ∈ p, u.2.length ≤ 40
theorem smRe.app {n m : Nat} {p q : List Nd} (h : smRe n p) (k : smRe m q) : smRe (n + m) (p ++ q) := ⟨by rw [List.length_append]; have := h.1; have := k.1; omega, fun u hu => (List.mem_append.1 hu).elim (h.2 u) (k.2 u)⟩
theorem smRe.one {u : Nd} (h : u.2.length ≤ 40) : smRe 1 [u] := ⟨Nat.le_refl 1, fun v hv => by rw [List.mem_singleton.1 hv]; exact h⟩
theorem smRe.mono {n m : Nat} {p : List Nd} (h : smRe n p) (k : n ≤ m) : smRe m p := ⟨Nat.le_trans h.1 k, h.2⟩
theorem t_arity (k : Int) : Tt (zg.f k) fun _ => True := ⟨_, p_arity k, trivial⟩
def szR : Nat → Nat
 | 0 => 2
 | n + 1 => 2 * szR n
theorem szR_bd : ∀ n, n ≤ 11 → 2 ≤ szR n ∧ szR n ≤ 4096
 | 0, _ => by decide
 | 1, _ => by decide
 | 2, _ => by decide
 | 3, _ => by decide
 | 4, _ => by decide
 | 5, _ => by decide
 | 6, _ => by decide
 | 7, _ => by decide
 | 8, _ => by decide
 | 9, _ => by decide
 | 10, _ => by decide
 | 11, _ => by decide
 | n + 12, h => by omega
theorem t_re {code : List Int} (hc : allW (inK .u8) code) (pl : Bool) : ∀ (n : Nat), n ≤ 10 → ∀ (k : Nat) (a s : Int), n < k → 0 ≤ a → a + 50 * szR n ≤ 1000000 → Tt (zh.r k code a s (n : Int) pl) fun r => smRe (szR n - 1) r.1 ∧ a ≤ r.2.1 ∧ r.2.1 ≤ a + 50 * szR n - 10 := by
 have leaf : ∀ (a a1 s1 : Int), a ≤ a1 → a1 ≤ a + 2 → 0 ≤ a → a ≤ 1000000 → Tt ((z2.f code a1 s1 8).bind fun u74 => if (u74.1 == 0) = true then (some ([(1, [])], u74.2.1, u74.2.2)) else (if (u74.1 == 1) = true then ((za.f code u74.2.1 u74.2.2).bind fun u82 => (((zd.f u82.1).bind fun u101 => if (!u101) = true then (some true) else ((zf.f u82.1).bind fun u103 => some (!u103))).bind fun (o : Bool) => match o with | x100 => (if x100 = true then (some []) else (some u82.1))).bind fun (o : List Int) => match o with | x95 => (some ([(2, x95)], u82.2.1, u82.2.2))) else (if (u74.1 == 2) = true then (some ([(2, [0, 1114111])], u74.2.1, u74.2.2)) else ((z4.f code u74.2.1 u74.2.2 [97, 97, 98, 99, 65, 12354, 42, 45]).bind fun u116 => some ([(2, [u116.1, u116.1])], u116.2.1, u116.2.2))))) (fun r : List Nd × Int × Int => smRe 1 r.1 ∧ a ≤ r.2.1 ∧ r.2.1 ≤ a + 60) := by
  intro a a1 s1 g1 g2 h0 h1
  refine (t_pick hc (by omega) (by omega)).bind fun x hx => Tt.ite (fun _ => ?_) (fun _ => Tt.ite (fun _ => ?_) (fun _ => Tt.ite (fun _ => ?_) (fun _ => ?_)))
  ·exact .one ⟨smRe.one (by simp), by dsimp only; omega, by dsimp only; omega⟩
  ·refine (t_set hc (by omega) (by omega)).bind fun y hy => ?_
   refine Tt.bind (Φ := fun l : List Int => l.length ≤ 20) ?_ fun l hl => .one ⟨smRe.one (by dsimp only; omega), by dsimp only; omega, by dsimp only; omega⟩
   refine Tt.bind (Φ := fun _ => True) ?_ fun _ _ => Tt.ite (fun _ => .one (by simp)) (fun _ => .one hy.1)
   rw [p_allRunes _ (by unfold big; omega), p_specSet _ (by unfold big; omega)]
   exact (Tt.one (Φ := fun _ => True) trivial).bind fun _ _ => Tt.ite (fun _ => .one trivial) (fun _ => (Tt.one (Φ := fun _ => True) trivial).bind fun _ _ => .one trivial)
  ·exact .one ⟨smRe.one (by simp), by dsimp only; omega, by dsimp only; omega⟩
  ·exact (t_among hc (by decide) (by omega) (by omega)).bind fun y hy => .one ⟨smRe.one (by simp), by dsimp only; omega, by dsimp only; omega⟩
 intro n
 induction n with
 | zero =>
  intro _ k a s hk h0 h1
  obtain ⟨k, rfl⟩ := Nat.exists_eq_succ_of_ne_zero (show k ≠ 0 by omega)
  rw [zh.r]
  unfold zh.b
  refine (Tt.one (Φ := fun o => o = (true, a, s)) rfl).bind fun o ho => ?_
  subst ho
  dsimp only
  refine Tt.ite (fun _ => ?_) (fun h => absurd rfl h)
  simp only [szR] at h1
  exact (leaf a a s (by omega) (by omega) h0 (by omega)).mono fun r hr => ⟨hr.1.mono (by decide), hr.2.1, by have := hr.2.2; simp only [szR]; omega⟩
 | succ n ih =>
  intro hn k a s hk h0 h1
  obtain ⟨k, rfl⟩ := Nat.exists_eq_succ_of_ne_zero (show k ≠ 0 by omega)
  rw [zh.r]
  unfold zh.b
  have hb := szR_bd n (by omega)
  have ih := ih (by omega)
  have hw : IntKind.i64.wrap (((n + 1 : Nat) : Int) - 1) = (n : Int) := by rw [yr (by omega) (by omega)]; omega
  have hne : (((n + 1 : Nat) : Int) == 0) = false := by rw [beq_eq_false_iff_ne]; omega
  rw [hne, szR]
  rw [szR] at h1
  generalize szR n = N at *
  refine Tt.bind (Φ := fun o : Bool × Int × Int => a ≤ o.2.1 ∧ o.2.1 ≤ a + 2) (Tt.ite (fun h => by cases h) (fun _ => (t_one hc h0 (by omega)).bind fun u hu => .one ⟨by dsimp only; omega, by dsimp only; omega⟩)) fun o ho => ?_
  obtain ⟨b, a1, s1⟩ := o
  dsimp only at *
  refine Tt.ite (fun _ => ?_) (fun _ => ?_)
  ·exact (leaf a a1 s1 ho.1 ho.2 h0 (by omega)).mono fun r hr => ⟨hr.1.mono (by omega), hr.2.1, by omega⟩
  refine (t_among hc (by decide) (by omega) (by omega)).bind fun x hx => ?_
  refine Tt.bind (Φ := fun _ => True) (Tt.bind (Φ := fun _ => True) (Tt.ite (fun _ => Tt.ite (fun _ => .one trivial) (fun _ => .one trivial)) (fun _ => .one trivial)) fun _ _ => Tt.ite (fun _ => .one trivial) (fun _ => .one trivial)) fun op _ => ?_
  rw [hw]
  refine (ih k x.2.1 x.2.2 (by omega) (by omega) (by omega)).bind fun u hu => ?_
  refine Tt.bind (Φ := fun r : List Nd × Int × Int => smRe (2 * (N - 1)) r.1 ∧ a ≤ r.2.1 ∧ r.2.1 ≤ a + 4 + 2 * (50 * N - 10)) ?_ fun o ho => ?_
  ·refine (t_arity op).bind fun _ _ => Tt.ite (fun _ => ?_) (fun _ => .one ⟨hu.1.mono (by omega), by dsimp only; omega, by dsimp only; omega⟩)
   refine (ih k u.2.1 u.2.2 (by omega) (by omega) (by omega)).bind fun v hv => ?_
   refine (Tt.app (by have := hu.1.1; have := hv.1.1; omega)).bind fun y hy => .one ⟨?_, by dsimp only; omega, by dsimp only; omega⟩
   subst hy
   exact (hu.1.app hv.1).mono (by omega)
  ·obtain ⟨l, a2, s2⟩ := o
   dsimp only at *
   refine (Tt.app (ys := [((op, []) : Nd)]) (by have := ho.1.1; simp; omega)).bind fun y hy => .one ⟨?_, by dsimp only; omega, by dsimp only; omega⟩
   subst hy
   exact (ho.1.app (smRe.one (u := ((op, []) : Nd)) (by simp))).mono (by omega)
theorem p_l1Same (p q : List Int) (hp : p.length ≤ big) : z1k.f p q = some (decide (p = q)) :=
 eq_all p q hp (z1k.l1 p q) _ (by omega) fun _ _ _ => rfl
theorem cutT {α : Type} {x : List α} {n : Nat} (h : n ≤ x.length) : cut? x 0 (n : Int) = some (x.take n) := by
 have := cut?_at (xs := x) (a := 0) (b := n) (Nat.zero_le _) h
 simpa using this
theorem t_iter {σ ρ : Type} (N : Nat) (I : Nat → σ → Prop) (Φ : ρ → Prop) (L : Nat → Nat → σ → Option ρ)
  (hs : ∀ k i st, i < N → I i st → (∀ st', I (i + 1) st' → Tt (L k (i + 1) st') Φ) → Tt (L (k + 1) i st) Φ)
  (he : ∀ k st, I N st → Tt (L (k + 1) N st) Φ) : ∀ k i st, i ≤ N → N - i < k → I i st → Tt (L k i st) Φ := by
 intro k
 induction k with
 | zero => intro i _ _ h _; omega
 | succ k ih =>
  intro i st hi hk h
  by_cases e : i = N
  ·subst e; exact he k st h
  ·exact hs k i st (by omega) h fun st' h' => ih (i + 1) st' (by omega) (by omega) h'
/-- Rising numbers. -/
def inc (l : List Int) : Prop := l.Pairwise (· < ·)
def Sm (m : Int) (l : List Int) : Prop := inc l ∧ ∀ x ∈ l, 0 ≤ x ∧ x < m
theorem inc_len : ∀ (l : List Int) (a m : Int), inc l → (∀ x ∈ l, a ≤ x ∧ x < m) → (l.length : Int) ≤ max 0 (m - a)
 | [], a, m, _, _ => by simp; omega
 | x :: xs, a, m, h, k => by
  have h := List.pairwise_cons.1 h
  have := inc_len xs (x + 1) m h.2 fun y hy => ⟨by have := h.1 y hy; omega, (k y (List.mem_cons_of_mem _ hy)).2⟩
  have := k x (List.mem_cons_self ..)
  rw [List.length_cons]
  omega
theorem Sm.len {m : Int} {l : List Int} (h : Sm m l) : (l.length : Int) ≤ max 0 m := by
 have := inc_len l 0 m h.1 h.2
 rwa [Int.sub_zero] at this
theorem Sm.mono {m n : Int} {l : List Int} (h : Sm m l) (k : m ≤ n) : Sm n l := ⟨h.1, fun x hx => ⟨(h.2 x hx).1, by have := (h.2 x hx).2; omega⟩⟩
theorem Sm.nil (m : Int) : Sm m [] := ⟨List.Pairwise.nil, fun x hx => by cases hx⟩
theorem Sm.one {m k : Int} (h0 : 0 ≤ k) (h : k < m) : Sm m [k] := ⟨List.pairwise_singleton _ _, fun x hx => by rw [List.mem_singleton.1 hx]; exact ⟨h0, h⟩⟩
theorem t_put (l : List Int) (x : Int) (hl : l.length ≤ 1000000000) : Tt (z18.f l x) fun r => r.length ≤ l.length + 1 ∧ (inc l → inc r) ∧ ∀ y ∈ r, y ∈ l ∨ y = x := by
 unfold z18.f
 have key := t_iter l.length (fun i (_ : Unit) => ∀ j (h : j < l.length), j < i → l[j] < x) (fun o => ∃ q : Nat, o = (q : Int) ∧ q ≤ l.length ∧ (∀ j (h : j < l.length), j < q → l[j] < x) ∧ ∀ h : q < l.length, ¬ l[q] < x) (fun k i _ => z18.l1 l x k (i : Int))
  (fun k i st hi h ih => by
   show Tt (z18.l1 l x (k + 1) (i : Int)) _
   rw [z18.l1, if_pos (by simp; omega), rd?_at hi]
   simp only [Option.bind_some]
   by_cases c : l[i] < x
   ·rw [if_pos (by simpa using c), yw i (by omega)]
    exact ih () fun j hj hji => by
     by_cases e : j = i
     ·subst e; exact c
     ·exact h j hj (by omega)
   ·rw [if_neg (by simpa using c)]
    exact .one ⟨i, rfl, by omega, h, fun _ => c⟩)
  (fun k st h => by
   show Tt (z18.l1 l x (k + 1) (l.length : Int)) _
   rw [z18.l1, if_neg (by simp)]
   simp only [Option.bind_some, Bool.false_eq_true, if_false]
   exact .one ⟨l.length, rfl, Nat.le_refl _, h, fun h => by omega⟩)
 refine (key (((l.length : Int) - 0).toNat + 2) 0 () (by omega) (by omega) fun j _ h => by omega).bind ?_
 rintro _ ⟨q, rfl, hq, h1, h2⟩
 dsimp only
 refine Tt.bind (Φ := fun b => b = true ∨ (b = false ∧ ∀ h : q < l.length, l[q] ≠ x)) ?_ fun b hb => Tt.ite (fun _ => .one ⟨by omega, fun h => h, fun y hy => .inl hy⟩) (fun hn => ?_)
 ·by_cases c : q < l.length
  ·rw [if_pos (by simp; omega), rd?_at c]
   refine .one ?_
   by_cases e : l[q] = x
   ·exact .inl (by simpa using e)
   ·exact .inr ⟨by simpa using e, fun _ => e⟩
  ·rw [if_neg (by simp; omega)]
   exact .one (.inr ⟨rfl, fun h => absurd h c⟩)
 ·have hb := (hb.resolve_left hn).2
  have c1 : cut? l 0 (q : Int) = some (l.take q) := cut0 hq
  have c2 : cut? l (q : Int) (l.length : Int) = some (l.drop q) := cutE hq
  rw [c1, c2]
  simp only [Option.bind_some]
  rw [app?_at (by simp; omega)]
  simp only [Option.bind_some]
  rw [app?_at (by simp; omega)]
  simp only [Option.bind_some]
  rw [app?_at (by simp; omega)]
  refine .one ⟨by simp; omega, fun hi => ?_, fun y hy => ?_⟩
  ·have hi' : inc (l.take q ++ l.drop q) := by rw [List.take_append_drop]; exact hi
   unfold inc at hi' ⊢
   have tl : ∀ a ∈ l.take q, a < x := fun a ha => by
    obtain ⟨j, hj, rfl⟩ := List.mem_take_iff_getElem.1 ha
    exact h1 j (by omega) (by omega)
   have dl : ∀ b ∈ l.drop q, x < b := fun b hb' => by
    obtain ⟨j, hj, rfl⟩ := List.mem_drop_iff_getElem.1 hb'
    have g1 := h2 (by omega)
    have g2 := hb (by omega)
    by_cases e : j = 0
    ·subst e; simp only [Nat.add_zero]; omega
    ·have := List.pairwise_iff_getElem.1 hi q (q + j) (by omega) (by omega) (by omega)
     omega
   rw [List.nil_append, List.append_assoc, List.pairwise_append]
   rw [List.pairwise_append] at hi'
   refine ⟨hi'.1, List.pairwise_cons.2 ⟨dl, hi'.2.1⟩, fun a ha b hb' => ?_⟩
   rcases List.mem_cons.1 hb' with rfl | hb'
   ·exact tl a ha
   ·have := tl a ha; have := dl b hb'; omega
  ·simp only [List.nil_append, List.mem_append, List.mem_singleton] at hy
   rcases hy with (hy | hy) | hy
   ·exact .inl (List.mem_of_mem_take hy)
   ·exact .inr hy
   ·exact .inl (List.mem_of_mem_drop hy)
theorem Sm.put {m : Int} {l : List Int} {x : Int} (h : Sm m l) (h0 : 0 ≤ x) (h1 : x < m) (hm : m ≤ 1000) : Tt (z18.f l x) (Sm m) := by
 have := h.len
 refine (t_put l x (by omega)).mono fun r hr => ⟨hr.2.1 h.1, fun y hy => ?_⟩
 rcases hr.2.2 y hy with hy | rfl
 ·exact h.2 y hy
 ·exact ⟨h0, h1⟩
theorem Sm.join {m : Int} {a b : List Int} (ha : Sm m a) (hb : Sm m b) (hm : m ≤ 1000) : Tt (z19.f a b) (Sm m) := by
 unfold z19.f
 have l1 := ha.len
 have l2 := hb.len
 rw [p_own a (by unfold big; omega)]
 simp only [Option.bind_some]
 refine Tt.bind ?_ fun o (ho : Sm m o) => .one ho
 refine t_iter b.length (fun _ (s : List Int) => Sm m s) (Sm m) (fun k i s => z19.l1 b k s (i : Int)) (fun k i st hi h ih => ?_) (fun k st h => ?_) _ 0 a (by omega) (by omega) ha
 ·show Tt (z19.l1 b (k + 1) st (i : Int)) _
  rw [z19.l1, if_pos (by simp; omega), rd?_at hi]
  simp only [Option.bind_some]
  have := hb.2 _ (List.getElem_mem hi)
  refine (h.put this.1 this.2 hm).bind fun s hs => ?_
  rw [yw i (by omega)]
  exact ih s hs
 ·show Tt (z19.l1 b (k + 1) st (b.length : Int)) _
  rw [z19.l1, if_neg (by simp)]
  exact .one h
def Rows6 (m : Int) (F : List (List Int)) : Prop := ∀ r ∈ F, Sm m r
theorem Rows6.mono {m n : Int} {F : List (List Int)} (h : Rows6 m F) (k : m ≤ n) : Rows6 n F := fun r hr => (h r hr).mono k
theorem t_link {m : Int} (F S : List (List Int)) (a : Bool) (b c frm to : List Int) (hF : Rows6 m F) (hto : Sm m to) (hm : m ≤ 1000) (hfl : frm.length ≤ 1000) (hfrom : ∀ k ∈ frm, 0 ≤ k ∧ k < F.length) : Tt (z1a.f a S b c F frm to) fun r => r.length = F.length ∧ Rows6 m r := by
 unfold z1a.f
 refine Tt.bind ?_ fun o (ho : o.length = F.length ∧ Rows6 m o) => .one ho
 refine t_iter frm.length (fun _ (s : List (List Int)) => s.length = F.length ∧ Rows6 m s) _ (fun k i s => z1a.l1 frm to k (i : Int) s) (fun k i st hi h ih => ?_) (fun k st h => ?_) _ 0 F (by omega) (by omega) ⟨rfl, hF⟩
 ·show Tt (z1a.l1 frm to (k + 1) (i : Int) st) _
  rw [z1a.l1, if_pos (by simp; omega), rd?_at hi]
  simp only [Option.bind_some]
  have hk := hfrom _ (List.getElem_mem hi)
  refine (Tt.rd hk.1 (by omega)).bind fun r hr => ((h.2 r hr).join hto hm).bind fun j hj => (Tt.rd hk.1 (by omega)).bind fun _ _ => (Tt.st hk.1 (by omega)).bind fun s hs => ?_
  rw [yw i (by omega)]
  exact ih s ⟨by omega, fun r hr => (hs.2 r hr).elim (fun e => e ▸ hj) (h.2 r)⟩
 ·show Tt (z1a.l1 frm to (k + 1) (frm.length : Int) st) _
  rw [z1a.l1, if_neg (by simp)]
  exact .one h
abbrev N6 := Bool × List (List Int) × List Int × List Int × List (List Int)
/-- What is known of a pattern's machine. -/
structure Nf (n : N6) : Prop where
 many : n.2.1.length ≤ 40
 sets : ∀ s ∈ n.2.1, s.length ≤ 24 ∧ s.length % 2 = 0
 first : Sm n.2.1.length n.2.2.1
 last : Sm n.2.1.length n.2.2.2.1
 foll : Rows6 n.2.1.length n.2.2.2.2
 len : n.2.2.2.2.length = n.2.1.length
abbrev G6 := Bool × List Int × List Int
structure Nl (p : List Nd) (i : Nat) (st : List G6 × List (List Int) × List (List Int)) : Prop where
 pile : ∀ g ∈ st.1, Sm st.2.1.length g.2.1 ∧ Sm st.2.1.length g.2.2
 plen : st.1.length ≤ i
 many : st.2.1.length ≤ i
 sets : ∀ s ∈ st.2.1, s.length ≤ 24 ∧ s.length % 2 = 0
 foll : Rows6 st.2.1.length st.2.2
 len : st.2.2.length = st.2.1.length
 goes : ∃ (ix : Int) (q : List Int) (out K : List (List Int)) (z : Int), pileR (p.drop i) ix q out = some (K, [z]) ∧ q.length = st.1.length
theorem pile_step {u : Nd} {us : List Nd} {ix : Int} {q : List Int} {out K : List (List Int)} {z : Int} (h : pileR (u :: us) ix q out = some (K, [z])) : 0 ≤ ar u.1 ∧ ar u.1 ≤ q.length ∧ ∃ q' out', pileR us (ix + 1) q' out' = some (K, [z]) ∧ (q'.length : Int) = q.length - ar u.1 + 1 := by
 unfold pileR at h
 split at h
 ·cases h
 ·refine ⟨by omega, by omega, _, _, h, ?_⟩
  simp
  omega
theorem Tt.rdN {α : Type} {xs : List α} {i : Int} (h0 : 0 ≤ i) (h : i < xs.length) : Tt (rd? xs i) fun r => r ∈ xs := Tt.rd h0 h
theorem t_l6Nfa {p : List Nd} (ho : okRe p = true) (hpl : p.all okPl = true) : Tt (z1b.f p) Nf := by
 have hz : ∃ K z, pileR p 0 [] [] = some (K, [z]) := by
  have h := ho
  unfold okRe at h
  rw [Bool.and_eq_true] at h
  have h := h.2
  cases hq : pileR p 0 [] [] with
  | none => rw [hq] at h; cases h
  | some o =>
   obtain ⟨K, q⟩ := o
   rw [hq] at h
   have h : ((q.length : Int) == 1) = true := h
   rw [beq_iff_eq] at h
   match q, h with
   | [z], _ => exact ⟨K, z, rfl⟩
   | [], h => simp at h
   | _ :: _ :: _, h => simp at h; omega
 obtain ⟨K, z, hz⟩ := hz
 obtain ⟨q1, q2, q3, _⟩ := okRe_facts ho
 unfold z1b.f
 refine Tt.bind (Φ := fun o => Nl p p.length o) ?_ fun o ho' => ?_
 ·refine t_iter p.length (fun i st => Nl p i st) _ (fun k i st => z1b.l1 p k st.1 (i : Int) st.2.1 st.2.2) (fun k i st hi h ih => ?_) (fun k st h => ?_) _ 0 ([], [], []) (by omega) (by omega) ⟨fun g hg => (by cases hg), Nat.le_refl _, Nat.le_refl _, fun g hg => (by cases hg), fun g hg => (by cases hg), rfl, 0, [], [], K, z, hz, rfl⟩
  ·obtain ⟨P, S, F⟩ := st
   show Tt (z1b.l1 p (k + 1) P (i : Int) S F) _
   obtain ⟨g1, g2, g3, g4, g5, g6, ix, qq, out, K', z', g7, g8⟩ := h
   dsimp only at g1 g2 g3 g4 g5 g6 g8
   rw [List.drop_eq_getElem_cons hi] at g7
   obtain ⟨a0, a1, q', out', g9, g10⟩ := pile_step g7
   rw [z1b.l1, if_pos (by simp; omega), rd?_at hi]
   simp only [Option.bind_some]
   have hset := q3 _ (List.getElem_mem hi)
   have hp5 : p[i].1 ≠ 5 ∧ p[i].1 ≠ 7 := by
    have := List.all_eq_true.1 hpl _ (List.getElem_mem hi)
    unfold okPl at this
    simp at this
    exact this
   refine Tt.bind (Φ := fun st' => Nl p (i + 1) st') ?_ fun st' h' => ?_
   rotate_left
   ·obtain ⟨P', S', F'⟩ := st'
    dsimp only
    rw [yw i (by omega)]
    exact ih (P', S', F') h'
   have hS : (S.length : Int) ≤ 1000 := by omega
   have hc : p[i].1 = 1 ∨ p[i].1 = 2 ∨ (p[i].1 = 3 ∨ p[i].1 = 4) ∨ p[i].1 = 6 := by
    rcases ar_cases a0 with h | h | h | h | h | h | h
    ·exact .inl h
    ·exact .inr (.inl h)
    ·exact .inr (.inr (.inl (.inl h)))
    ·exact .inr (.inr (.inl (.inr h)))
    ·exact absurd h hp5.1
    ·exact .inr (.inr (.inr h))
    ·exact absurd h hp5.2
   rcases hc with h | h | h | h
   ·-- nothing
    have har : ar p[i].1 = 0 := by rw [h]; rfl
    rw [if_neg (by rw [h]; decide), if_pos (by rw [h]; decide)]
    refine (Tt.app (by simp; omega)).bind fun y hy => .one ?_
    subst hy
    refine ⟨fun g hg => ?_, by simp; omega, by dsimp only; omega, g4, g5, g6, ix + 1, q', out', K', z', g9, by simp; omega⟩
    rcases List.mem_append.1 hg with hg | hg
    ·exact g1 g hg
    ·rw [List.mem_singleton.1 hg]; exact ⟨Sm.nil _, Sm.nil _⟩
   ·have har : ar p[i].1 = 0 := by rw [h]; rfl
    rw [if_pos (by rw [h]; decide), p_own _ (by unfold big; omega)]
    simp only [Option.bind_some]
    refine (Tt.app (by simp; omega)).bind fun y hy => (Tt.app (by simp; omega)).bind fun y2 hy2 => (Tt.app (by simp; omega)).bind fun y3 hy3 => .one ?_
    subst hy hy2 hy3
    have hlen : ((S ++ [p[i].2]).length : Int) = (S.length : Int) + 1 := by simp
    refine ⟨fun g hg => ?_, by simp; omega, by simp; omega, fun s hs => ?_, fun r hr => ?_, by simp; omega, ix + 1, q', out', K', z', g9, by simp; omega⟩
    ·dsimp only
     rw [hlen]
     rcases List.mem_append.1 hg with hg | hg
     ·exact ⟨(g1 g hg).1.mono (by omega), (g1 g hg).2.mono (by omega)⟩
     ·rw [List.mem_singleton.1 hg]; exact ⟨Sm.one (by omega) (by omega), Sm.one (by omega) (by omega)⟩
    ·rcases List.mem_append.1 hs with hs | hs
     ·exact g4 s hs
     ·rw [List.mem_singleton.1 hs]; exact hset
    ·dsimp only
     rw [hlen]
     rcases List.mem_append.1 hr with hr | hr
     ·exact (g5 r hr).mono (by omega)
     ·rw [List.mem_singleton.1 hr]; exact Sm.nil _
   ·have har : ar p[i].1 = 2 := by rcases h with h | h <;> rw [h] <;> rfl
    have hP : 2 ≤ P.length := by omega
    rw [if_neg (by rcases h with h | h <;> rw [h] <;> decide), if_neg (by rcases h with h | h <;> rw [h] <;> decide), yr (n := (P.length : Int) - 1) (by omega) (by omega), yr (n := (P.length : Int) - 2) (by omega) (by omega)]
    refine (Tt.rd (by omega) (by omega)).bind fun b hb => ?_
    rw [if_neg (by rcases h with h | h <;> rw [h] <;> decide)]
    refine (Tt.rd (by omega) (by omega)).bind fun a ha => ?_
    obtain ⟨b1, b2⟩ := g1 b hb
    obtain ⟨a1', a2⟩ := g1 a ha
    have l2 := a2.len
    have j1 := a1'.join b1 hS
    have j2 := a2.join b2 hS
    refine Tt.bind (Φ := fun o : G6 => Sm S.length o.2.1 ∧ Sm S.length o.2.2) (Tt.ite (fun _ => j1.bind fun x hx => j2.bind fun y hy => .one ⟨hx, hy⟩) (fun _ => j1.bind fun x hx => j2.bind fun y hy => .one ⟨hx, hy⟩)) fun o ho => ?_
    obtain ⟨e, x, y⟩ := o
    dsimp only at ho ⊢
    refine Tt.bind (Φ := fun o : List (List Int) × G6 => (o.1.length = F.length ∧ Rows6 S.length o.1) ∧ Sm S.length o.2.2.1 ∧ Sm S.length o.2.2.2) (Tt.ite (fun _ => ?_) (fun _ => .one ⟨⟨rfl, g5⟩, ho⟩)) fun o ho => ?_
    ·refine (t_link F S false [] [] a.2.2 b.2.1 g5 b1 hS (by omega) (fun k hk => ⟨(a2.2 k hk).1, by have := (a2.2 k hk).2; omega⟩)).bind fun F' hF' => ?_
     refine Tt.bind (Φ := fun o : G6 => Sm S.length o.2.1 ∧ Sm S.length o.2.2) (Tt.ite (fun _ => .one ⟨a1', b2⟩) (fun _ => .one ⟨a1', b2⟩)) fun o ho => ?_
     obtain ⟨e', x', y'⟩ := o
     dsimp only at ho ⊢
     refine Tt.bind (Φ := fun o : List Int => Sm S.length o) (Tt.ite (fun _ => j1.bind fun x hx => .one hx) (fun _ => .one ho.1)) fun o ho1 => ?_
     exact Tt.ite (fun _ => j2.bind fun y hy => .one ⟨hF', ho1, hy⟩) (fun _ => .one ⟨hF', ho1, ho.2⟩)
    ·obtain ⟨F', e', x', y'⟩ := o
     dsimp only at ho ⊢
     have c0 : cut? P 0 ((P.length : Int) - 2) = some (P.take (P.length - 2)) := by
      rw [show (P.length : Int) - 2 = ((P.length - 2 : Nat) : Int) by omega]
      exact cutT (by omega)
     rw [c0]
     simp only [Option.bind_some]
     refine (Tt.app (by simp; omega)).bind fun P' hP' => .one ?_
     subst hP'
     refine ⟨fun g hg => ?_, by simp; omega, by dsimp only; omega, g4, ho.1.2, by dsimp only; omega, ix + 1, q', out', K', z', g9, by simp; omega⟩
     rcases List.mem_append.1 hg with hg | hg
     ·exact g1 g (List.mem_of_mem_take hg)
     ·rw [List.mem_singleton.1 hg]; exact ho.2
   ·have har : ar p[i].1 = 1 := by rw [h]; rfl
    have hP : 1 ≤ P.length := by omega
    rw [if_neg (by rw [h]; decide), if_neg (by rw [h]; decide), yr (by omega) (by omega)]
    refine (Tt.rd (by omega) (by omega)).bind fun b hb => ?_
    rw [if_pos (by rw [h]; decide)]
    obtain ⟨b1, b2⟩ := g1 b hb
    have l2 := b2.len
    refine (t_link F S false [] [] b.2.2 b.2.1 g5 b1 hS (by omega) (fun k hk => ⟨(b2.2 k hk).1, by have := (b2.2 k hk).2; omega⟩)).bind fun F' hF' => (Tt.rd (by omega) (by omega)).bind fun _ _ => (Tt.st (by omega) (by omega)).bind fun P' hP' => .one ?_
    refine ⟨fun g hg => ?_, by dsimp only; omega, by dsimp only; omega, g4, hF'.2, by dsimp only; omega, ix + 1, q', out', K', z', g9, by dsimp only; omega⟩
    rcases hP'.2 g hg with rfl | hg
    ·exact ⟨b1, b2⟩
    ·exact g1 g hg
  ·obtain ⟨P, S, F⟩ := st
   show Tt (z1b.l1 p (k + 1) P (p.length : Int) S F) _
   rw [z1b.l1, if_neg (by simp)]
   exact .one h
 ·obtain ⟨P, S, F⟩ := o
  obtain ⟨g1, g2, g3, g4, g5, g6, ix, qq, out, K', z', g7, g8⟩ := ho'
  dsimp only at g1 g2 g3 g4 g5 g6 g8 ⊢
  rw [List.drop_length] at g7
  unfold pileR at g7
  have hq : qq = [z'] := by injection g7 with g7; injection g7
  have hP : P.length = 1 := by rw [← g8, hq]; rfl
  refine (Tt.rd (by omega) (by omega)).bind fun a ha => (Tt.rd (by omega) (by omega)).bind fun b hb => ?_
  obtain ⟨b1, b2⟩ := g1 b hb
  have l1 := b1.len
  rw [p_own _ (by unfold big; omega)]
  simp only [Option.bind_some]
  refine (Tt.rd (by omega) (by omega)).bind fun c hc => ?_
  obtain ⟨c1, c2⟩ := g1 c hc
  have l2 := c2.len
  rw [p_own _ (by unfold big; omega)]
  exact .one ⟨by dsimp only; omega, g4, b1, c2, g5, g6⟩
/-- A loop that only looks. -/
theorem t_look {ρ : Type} {Φ : ρ → Prop} (N : Nat) (L : Nat → Int → Option ρ) (hN : N ≤ 1000000000)
  (hs : ∀ k (i : Nat), i < N → Tt (L k (IntKind.i64.wrap ((i : Int) + 1))) Φ → Tt (L (k + 1) (i : Int)) Φ) (he : ∀ k, Tt (L (k + 1) (N : Int)) Φ) (k : Nat) (hk : N < k) : Tt (L k 0) Φ :=
 t_iter N (fun _ (_ : Unit) => True) Φ (fun k i _ => L k (i : Int)) (fun k i _ hi _ ih => hs k i hi (by rw [yw i (by omega)]; exact ih () trivial)) (fun k _ _ => he k) k 0 () (Nat.zero_le _) (by omega) trivial
theorem t_in (a b c : Int) : Tt (zb.f a b c) fun _ => True := by
 unfold zb.f
 exact Tt.ite (fun _ => .one trivial) fun _ => .one trivial
theorem Tt.lo {α β : Type} {X : Option (Lo Unit α)} {f : Lo Unit α → Option α} {Ψ : α → Prop} (h : Tt X fun o => ∀ z, o = .ret z → Ψ z) (h0 : Tt (f (.go ())) Ψ) (h1 : ∀ z, f (.ret z) = some z) : Tt (X.bind f) Ψ := by
 refine h.bind fun o ho => ?_
 cases o with
 | go u => exact h0
 | ret z => rw [h1]; exact .one (ho z rfl)
theorem t_rising (l : List Int) (a b : Int) (hl : l.length ≤ 1000000) : Tt (z1d.f l a b) fun _ => True := by
 unfold z1d.f
 refine Tt.bind (Φ := fun _ => True) ?_ fun o _ => by cases o <;> exact .one trivial
 refine t_look l.length (fun k i => z1d.l1 l a b k i) (by omega) (fun k i hi ih => ?_) (fun k => ?_) _ (by omega)
 ·show Tt (z1d.l1 l a b (k + 1) (i : Int)) _
  rw [z1d.l1, if_pos (by simp; omega), rd?_at hi]
  simp only [Option.bind_some]
  refine Tt.bind (Φ := fun _ => True) ((t_in _ _ _).bind fun _ _ => Tt.ite (fun _ => .one trivial) fun _ => Tt.ite (fun h => ?_) fun _ => .one trivial) fun o _ => Tt.ite (fun _ => .one trivial) fun _ => ih
  have h : (i : Int) > 0 := by simpa using h
  exact (Tt.rd (by rw [yr (by omega) (by omega)]; omega) (by rw [yr (by omega) (by omega)]; omega)).bind fun _ _ => .one trivial
 ·show Tt (z1d.l1 l a b (k + 1) (l.length : Int)) _
  rw [z1d.l1, if_neg (by simp)]
  exact .one trivial
theorem t_GoodNfa {n : N6} (h : Nf n) : Tt (z1e.f n.1 n.2.1 n.2.2.1 n.2.2.2.1 n.2.2.2.2) fun _ => True := by
 obtain ⟨e, S, fi, la, F⟩ := n
 obtain ⟨h1, h2, h3, h4, h5, h6⟩ := h
 dsimp only at *
 have g3 := h3.len
 have g4 := h4.len
 unfold z1e.f
 refine Tt.bind (Φ := fun _ => True) (Tt.ite (fun _ => .one trivial) fun _ => Tt.ite (fun _ => .one trivial) fun _ => (t_rising _ _ _ (by omega)).bind fun _ _ => Tt.ite (fun _ => .one trivial) fun _ => (t_rising _ _ _ (by omega)).bind fun _ _ => .one trivial) fun o _ => Tt.ite (fun _ => .one trivial) fun _ => ?_
 refine Tt.bind (Φ := fun _ => True) ?_ fun o _ => by cases o <;> exact .one trivial
 refine t_look S.length (fun k i => z1e.l1 S F k i) (by omega) (fun k i hi ih => ?_) (fun k => ?_) _ (by omega)
 ·show Tt (z1e.l1 S F (k + 1) (i : Int)) _
  rw [z1e.l1, if_pos (by simp; omega), rd?_at hi]
  simp only [Option.bind_some]
  rw [p_specSet _ (by have := (h2 _ (List.getElem_mem hi)).1; unfold big; omega)]
  simp only [Option.bind_some]
  refine Tt.bind (Φ := fun _ => True) (Tt.ite (fun _ => .one trivial) fun _ => ?_) fun o _ => Tt.ite (fun _ => .one trivial) fun _ => ih
  refine (Tt.rd (by omega) (by omega)).bind fun r hr => ?_
  have := (h5 r hr).len
  exact (t_rising _ _ _ (by omega)).bind fun _ _ => .one trivial
 ·show Tt (z1e.l1 S F (k + 1) (S.length : Int)) _
  rw [z1e.l1, if_neg (by simp)]
  exact .one trivial
theorem t_cuts2 (s out : List Int) (hs : s.length ≤ 24) (he : s.length % 2 = 0) (ho : out.length ≤ 10000) : Tt (z1f.l2 s (((s.length : Int) - 0).toNat + 2) out 0) fun r => r.length ≤ out.length + s.length := by
 have key : ∀ (n k i : Nat) (o : List Int), s.length - i ≤ n → n < k → i % 2 = 0 → o.length ≤ out.length + i → i ≤ s.length → Tt (z1f.l2 s k o (i : Int)) fun r => r.length ≤ out.length + s.length := by
  intro n
  induction n with
  | zero =>
   intro k i o h1 h2 h3 h4 h5
   obtain ⟨k, rfl⟩ := Nat.exists_eq_succ_of_ne_zero (show k ≠ 0 by omega)
   rw [z1f.l2, if_neg (by simp; omega)]
   exact .one (by omega)
  | succ n ih =>
   intro k i o h1 h2 h3 h4 h5
   obtain ⟨k, rfl⟩ := Nat.exists_eq_succ_of_ne_zero (show k ≠ 0 by omega)
   rw [z1f.l2]
   refine Tt.ite (fun h => ?_) fun _ => .one (by omega)
   have h : i < s.length := by have := of_decide_eq_true h; omega
   have r1 := rd?_at h
   have hw : IntKind.i64.wrap ((i : Int) + 1) = ((i + 1 : Nat) : Int) := yw i (by omega)
   have r2 := rd?_at (show i + 1 < s.length by omega)
   have hw2 : IntKind.i64.wrap ((i : Int) + 2) = ((i + 2 : Nat) : Int) := by rw [yr (by omega) (by omega)]; omega
   rw [hw, hw2, r1, r2]
   simp only [Option.bind_some]
   refine Tt.bind (Φ := fun q => q.length ≤ o.length + 2) ?_ fun q hq => ih k (i + 2) q (by omega) (by omega) (by omega) (by omega) (by omega)
   refine Tt.bind (Φ := fun q => q.length ≤ o.length + 1) (Tt.ite (fun _ => (t_put _ _ (by omega)).bind fun q hq => .one hq.1) fun _ => .one (by omega)) fun q hq => Tt.ite (fun _ => (t_put _ _ (by omega)).bind fun q' hq' => .one (by have := hq'.1; omega)) fun _ => .one (by omega)
 exact key s.length _ 0 out (by omega) (by omega) rfl (by omega) (by omega)
theorem t_l6Cuts {n : N6} (h : Nf n) : Tt (z1f.f n.1 n.2.1 n.2.2.1 n.2.2.2.1 n.2.2.2.2) fun r => r.length ≤ 1000 := by
 obtain ⟨e, S, fi, la, F⟩ := n
 obtain ⟨h1, h2, h3, h4, h5, h6⟩ := h
 dsimp only at *
 unfold z1f.f
 refine Tt.bind (Φ := fun o => o.length ≤ 1000) ?_ fun o ho => .one ho
 refine t_iter S.length (fun i (o : List Int) => o.length ≤ 24 * i) _ (fun k i o => z1f.l1 S k o (i : Int)) (fun k i st hi h ih => ?_) (fun k st h => ?_) _ 0 [] (by omega) (by omega) (by simp)
 ·show Tt (z1f.l1 S (k + 1) st (i : Int)) _
  rw [z1f.l1, if_pos (by simp; omega), rd?_at hi]
  simp only [Option.bind_some]
  have hs := h2 _ (List.getElem_mem hi)
  refine Tt.bind (Φ := fun o => o.length ≤ 24 * (i + 1)) ((t_cuts2 _ st hs.1 hs.2 (by omega)).bind fun o ho => .one (by omega)) fun o ho => ?_
  rw [yw i (by omega)]
  exact ih o ho
 ·show Tt (z1f.l1 S (k + 1) st (S.length : Int)) _
  rw [z1f.l1, if_neg (by simp)]
  exact .one (by omega)
theorem t_CutsOf {n : N6} (h : Nf n) : Tt (z1g.f n.1 n.2.1 n.2.2.1 n.2.2.2.1 n.2.2.2.2) fun r => r.1.length ≤ 40 := by
 unfold z1g.f
 obtain ⟨c, hc, hcl⟩ := t_l6Cuts h
 rw [hc]
 simp only [Option.bind_some]
 refine Tt.bind (Φ := fun b => b = true ∨ c.length ≤ 40) ((t_GoodNfa h).bind fun _ _ => Tt.ite (fun _ => .one (.inl rfl)) fun _ => .one ?_) fun b hb => Tt.ite (fun _ => .one (by simp)) fun hn => .one (hb.resolve_left hn)
 by_cases e : c.length ≤ 40
 ·exact .inr e
 ·exact .inl (by simp; omega)
theorem t_step {n : N6} (h : Nf n) {l : List Int} (hl : Sm n.2.1.length l) (r : Int) : Tt (z1j.f n.1 n.2.1 n.2.2.1 n.2.2.2.1 n.2.2.2.2 l r) (Sm n.2.1.length) := by
 obtain ⟨e, S, fi, la, F⟩ := n
 obtain ⟨h1, h2, h3, h4, h5, h6⟩ := h
 dsimp only at *
 have g := hl.len
 unfold z1j.f
 refine Tt.bind ?_ fun o (ho : Sm S.length o) => .one ho
 refine t_iter l.length (fun i (o : List Int) => o.Sublist (l.take i)) _ (fun k i o => z1j.l1 S l r k o (i : Int)) (fun k i st hi h ih => ?_) (fun k st h => ?_) _ 0 [] (by omega) (by omega) (List.nil_sublist _)
 ·show Tt (z1j.l1 S l r (k + 1) st (i : Int)) _
  rw [z1j.l1, if_pos (by simp; omega), rd?_at hi]
  simp only [Option.bind_some]
  have hk := hl.2 _ (List.getElem_mem hi)
  have ht : l.take (i + 1) = l.take i ++ [l[i]] := List.take_succ_eq_append_getElem hi
  have hsl := h.length_le
  rw [List.length_take] at hsl
  refine Tt.bind (Φ := fun o : List Int => o.Sublist (l.take (i + 1))) ?_ fun o ho => ?_
  ·refine (Tt.rd hk.1 hk.2).bind fun s hs => ?_
   have hs := h2 s hs
   rw [p_specIn s r (by omega) hs.2]
   simp only [Option.bind_some]
   refine Tt.ite (fun _ => (Tt.app (by simp; omega)).bind fun o ho => .one ?_) fun _ => .one ?_
   ·subst ho
    rw [ht]
    exact h.append (List.Sublist.refl _)
   ·rw [ht]
    exact h.trans (List.sublist_append_left _ _)
  ·rw [yw i (by omega)]
   exact ih o ho
 ·show Tt (z1j.l1 S l r (k + 1) st (l.length : Int)) _
  rw [z1j.l1, if_neg (by simp)]
  rw [List.take_length] at h
  exact .one ⟨hl.1.sublist h, fun x hx => hl.2 x (h.subset hx)⟩
theorem t_behind {n : N6} (h : Nf n) {l : List Int} (hl : Sm n.2.1.length l) : Tt (z1h.f n.1 n.2.1 n.2.2.1 n.2.2.2.1 n.2.2.2.2 l) (Sm n.2.1.length) := by
 obtain ⟨e, S, fi, la, F⟩ := n
 obtain ⟨h1, h2, h3, h4, h5, h6⟩ := h
 dsimp only at *
 have g := hl.len
 unfold z1h.f
 refine Tt.bind ?_ fun o (ho : Sm S.length o) => .one ho
 refine t_iter l.length (fun i (o : List Int) => Sm S.length o) _ (fun k i o => z1h.l1 F l k o (i : Int)) (fun k i st hi h ih => ?_) (fun k st h => ?_) _ 0 [] (by omega) (by omega) (Sm.nil _)
 ·show Tt (z1h.l1 F l (k + 1) st (i : Int)) _
  rw [z1h.l1, if_pos (by simp; omega), rd?_at hi]
  simp only [Option.bind_some]
  have hk := hl.2 _ (List.getElem_mem hi)
  refine (Tt.rd hk.1 (by omega)).bind fun s hs => (h.join (h5 s hs) (by omega)).bind fun o ho => ?_
  rw [yw i (by omega)]
  exact ih o ho
 ·show Tt (z1h.l1 F l (k + 1) st (l.length : Int)) _
  rw [z1h.l1, if_neg (by simp)]
  exact .one h
theorem t_has (l : List Int) (x : Int) (hl : l.length ≤ 1000000) : Tt (z1i.f l x) fun b => b = decide (x ∈ l) := by
 unfold z1i.f
 have key := t_iter l.length (fun i (_ : Unit) => ∀ j (h : j < l.length), j < i → l[j] ≠ x) (fun o : Lo Unit Bool => (o = .ret true ∧ x ∈ l) ∨ (o = .go () ∧ x ∉ l)) (fun k i _ => z1i.l1 l x k (i : Int)) (fun k i _ hi h ih => ?_) (fun k _ h => ?_) (((l.length : Int) - 0).toNat + 2) 0 () (by omega) (by omega) (fun j _ h => by omega)
 ·refine key.bind fun o ho => ?_
  rcases ho with ⟨rfl, h⟩ | ⟨rfl, h⟩
  ·exact .one (by simp [h])
  ·exact .one (by simp [h])
 ·show Tt (z1i.l1 l x (k + 1) (i : Int)) _
  rw [z1i.l1, if_pos (by simp; omega), rd?_at hi]
  simp only [Option.bind_some]
  refine Tt.ite (fun c => .one (.inl ⟨rfl, ?_⟩)) fun c => ?_
  ·have c : l[i] = x := by simpa using c
   exact c ▸ List.getElem_mem hi
  ·rw [yw i (by omega)]
   refine ih () fun j hj hji => ?_
   by_cases e : j = i
   ·subst e; simpa using c
   ·exact h j hj (by omega)
 ·show Tt (z1i.l1 l x (k + 1) (l.length : Int)) _
  rw [z1i.l1, if_neg (by simp)]
  refine .one (.inr ⟨rfl, fun hx => ?_⟩)
  obtain ⟨j, hj, e⟩ := List.getElem_of_mem hx
  exact h j hj hj e
theorem t_index (L : List (List Int)) (x : List Int) (hL : L.length ≤ 1000000) (hx : x.length ≤ 1000000) : Tt (z1l.f L x) fun r => r < L.length := by
 unfold z1l.f
 refine Tt.bind (Φ := fun o : Lo Unit Int => ∀ z, o = .ret z → z < L.length) ?_ fun o ho => ?_
 ·refine t_look L.length (fun k i => z1l.l1 L x k i) (by omega) (fun k i hi ih => ?_) (fun k => ?_) _ (by omega)
  ·show Tt (z1l.l1 L x (k + 1) (i : Int)) _
   rw [z1l.l1, if_pos (by simp; omega), rd?_at hi]
   simp only [Option.bind_some]
   rw [p_l1Same x _ (by unfold big; omega)]
   simp only [Option.bind_some]
   exact Tt.ite (fun _ => .one fun z hz => by injection hz with hz; omega) fun _ => ih
  ·show Tt (z1l.l1 L x (k + 1) (L.length : Int)) _
   rw [z1l.l1, if_neg (by simp)]
   exact .one fun z hz => by cases hz
 ·cases o with
  | go u => exact .one (by omega)
  | ret z => exact .one (ho z rfl)
abbrev D6 := List Int × List (List Int) × List Bool
/-- What is known of a machine of states. -/
structure Df (d : D6) : Prop where
 some : 1 ≤ d.2.1.length
 many : d.2.1.length ≤ 60
 fin : d.2.2.length = d.2.1.length
 cuts : d.1.length ≤ 40
 rows : ∀ r ∈ d.2.1, r.length = d.1.length + 1 ∧ ∀ x ∈ r, 0 ≤ x ∧ x < d.2.1.length
/-- All but the first are lists of places. -/
def Sets6 (m : Int) (L : List (List Int)) : Prop := ∀ j (h : j < L.length), 1 ≤ j → Sm m L[j]
theorem Sets6.app {m : Int} {L : List (List Int)} {x : List Int} (h : Sets6 m L) (hx : Sm m x) : Sets6 m (L ++ [x]) := fun j hj h1 => by
 by_cases e : j < L.length
 ·rw [List.getElem_append_left e]; exact h j e h1
 ·rw [List.getElem_append_right (by omega)]
  simp only [List.length_append, List.length_singleton] at hj
  have : j - L.length = 0 := by omega
  simp only [this, List.getElem_cons_zero]
  exact hx
theorem t_dfa3 {n : N6} (h : Nf n) {beh : List Int} (hb : Sm n.2.1.length beh) (cs : List Int) (hc : cs.length ≤ 41) (L : List (List Int)) (hL : Sets6 n.2.1.length L) (h1 : 1 ≤ L.length) (h60 : L.length ≤ 60) :
  Tt (z1m.l3 n.1 n.2.1 n.2.2.1 n.2.2.2.1 n.2.2.2.2 beh cs (((cs.length : Int) - 0).toNat + 2) L [] 0) fun o => Sets6 n.2.1.length o.1 ∧ L.length ≤ o.1.length ∧ o.2.length = cs.length ∧ ∀ x ∈ o.2, 0 ≤ x ∧ x < o.1.length := by
 refine t_iter cs.length (fun i (o : List (List Int) × List Int) => Sets6 n.2.1.length o.1 ∧ L.length ≤ o.1.length ∧ o.1.length ≤ 60 + i ∧ o.2.length = i ∧ ∀ x ∈ o.2, 0 ≤ x ∧ x < o.1.length) _ (fun k i o => z1m.l3 n.1 n.2.1 n.2.2.1 n.2.2.2.1 n.2.2.2.2 beh cs k o.1 o.2 (i : Int)) (fun k i st hi g ih => ?_) (fun k st g => ?_) _ 0 (L, []) (by omega) (by omega) ⟨hL, Nat.le_refl _, by omega, rfl, fun x hx => by cases hx⟩
 ·obtain ⟨A, R⟩ := st
  obtain ⟨g1, g2, g3, g4, g5⟩ := g
  dsimp only at g1 g2 g3 g4 g5
  show Tt (z1m.l3 _ _ _ _ _ beh cs (k + 1) A R (i : Int)) _
  rw [z1m.l3, if_pos (by simp; omega), rd?_at hi]
  simp only [Option.bind_some]
  refine (t_step h hb _).bind fun to hto => ?_
  have hm := h.many
  have hto' := hto.len
  refine (t_index A to (by omega) (by omega)).bind fun at_ hat => ?_
  refine Tt.bind (Φ := fun o : List (List Int) × Int => Sets6 n.2.1.length o.1 ∧ A.length ≤ o.1.length ∧ o.1.length ≤ A.length + 1 ∧ 0 ≤ o.2 ∧ o.2 < o.1.length) (Tt.ite (fun c => (Tt.app (by simp; omega)).bind fun A' hA' => .one ?_) fun c => .one ⟨g1, Nat.le_refl _, by dsimp only; omega, by dsimp only; simpa using c, hat⟩) fun o ho => ?_
  ·subst hA'
   exact ⟨g1.app hto, by simp, by simp, by dsimp only; omega, by simp only [List.length_append, List.length_singleton]; omega⟩
  ·obtain ⟨A', a⟩ := o
   obtain ⟨o1, o2, o3, o4, o5⟩ := ho
   dsimp only at o1 o2 o3 o4 o5 ⊢
   refine (Tt.app (by simp; omega)).bind fun R' hR' => ?_
   subst hR'
   rw [yw i (by omega)]
   refine ih (A', R ++ [a]) ⟨o1, by dsimp only; omega, by dsimp only; omega, by simp; omega, fun x hx => ?_⟩
   rcases List.mem_append.1 hx with hx | hx
   ·have := g5 x hx; exact ⟨this.1, by dsimp only; omega⟩
   ·rw [List.mem_singleton.1 hx]; exact ⟨o4, o5⟩
 ·obtain ⟨A, R⟩ := st
  obtain ⟨g1, g2, g3, g4, g5⟩ := g
  show Tt (z1m.l3 _ _ _ _ _ beh cs (k + 1) A R (cs.length : Int)) _
  rw [z1m.l3, if_neg (by simp)]
  exact .one ⟨g1, g2, g4, g5⟩
theorem t_dfa2 (la beh l : List Int) (hl : l.length ≤ 1000) (hla : la.length ≤ 1000) : Tt (z1m.l2 la beh l (((l.length : Int) - 0).toNat + 2) false 0) fun o => o.2 = beh := by
 refine t_iter l.length (fun i (_ : Bool) => True) _ (fun k i b => z1m.l2 la beh l k b (i : Int)) (fun k i st hi _ ih => ?_) (fun k st _ => ?_) _ 0 false (by omega) (by omega) trivial
 ·show Tt (z1m.l2 la beh l (k + 1) st (i : Int)) _
  rw [z1m.l2, if_pos (by simp; omega), rd?_at hi]
  simp only [Option.bind_some]
  refine Tt.bind (Φ := fun _ => True) (Tt.ite (fun _ => .one trivial) fun _ => (t_has _ _ (by omega)).bind fun _ _ => .one trivial) fun b _ => ?_
  rw [yw i (by omega)]
  exact ih b trivial
 ·show Tt (z1m.l2 la beh l (k + 1) st (l.length : Int)) _
  rw [z1m.l2, if_neg (by simp)]
  exact .one rfl
structure Dl (n : N6) (cu : List Int) (L : List (List Int)) (k : Nat) (nx : List (List Int)) (fi : List Bool) : Prop where
 sets : Sets6 n.2.1.length L
 some : 1 ≤ L.length
 many : L.length ≤ 60
 le : k ≤ L.length
 lnx : nx.length = k
 lfi : fi.length = k
 rows : ∀ r ∈ nx, r.length = cu.length + 1 ∧ ∀ x ∈ r, 0 ≤ x ∧ x < L.length
end Go.Proofs.YtbeolahmnoeicaaGreat
