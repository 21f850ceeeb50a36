/- Plain laws of the printed functions. Conditions as each lemma says. -/
import Derived.Test.YtbeolahmnoeicaaGreatDoorPB
import Derived.Test.YtbeolahmnoeicaaGreatDoorWLExpected5
set_option linter.unusedVariables false
set_option linter.unusedSimpArgs false
namespace Go.Proofs.YtbeolahmnoeicaaGreatDoor
open Go Go.Proofs.GL
theorem p_l1In (a b c : Int) : zd.f a b c = some (decide (b ≤ a) && decide (a ≤ c)) := by
 unfold zd.f
 by_cases h : b ≤ a
 ·rw [if_pos (by simpa using h)]; simp [h]
 ·rw [if_neg (by simpa using h)]; simp [h]
theorem p_inRange (a b c : Int) : z0x.f a b c = some (decide (b ≤ a) && decide (a ≤ c)) := by
 unfold z0x.f
 by_cases h : b ≤ a
 ·rw [if_pos (by simpa using h)]; simp [h]
 ·rw [if_neg (by simpa using h)]; simp [h]
def wZ {α : Type} (_ : α) : Int := 0
def wStr (s : ByteArray) : Int := s.size
def wL {α : Type} (w : α → Int) (p : List α) : Int := p.length + sumW w p
def okZ {α : Type} (_ : α) : Prop := True
def okStr (s : ByteArray) : Prop := s.size ≤ maxN
def okL {α : Type} (ok : α → Prop) (p : List α) : Prop := p.length ≤ maxN ∧ ∀ u ∈ p, ok u
theorem wZ_pos {α : Type} (u : α) : 0 ≤ wZ u := Int.le_refl _
theorem wStr_pos (s : ByteArray) : 0 ≤ wStr s := by unfold wStr; omega
theorem wL_pos {α : Type} {w : α → Int} (h : ∀ u, 0 ≤ w u) (p : List α) : 0 ≤ wL w p := by
 have := sumW_pos (w := w) (us := p) fun u _ => h u
 unfold wL
 omega
theorem wL_len {α : Type} {w : α → Int} (h : ∀ u, 0 ≤ w u) (p : List α) : (p.length : Int) ≤ wL w p := by
 have := sumW_pos (w := w) (us := p) fun u _ => h u
 unfold wL
 omega
theorem wL_big {α : Type} {w : α → Int} (h : ∀ u, 0 ≤ w u) {p : List α} (hp : wL w p ≤ 1000000000) : p.length ≤ big := by
 have := wL_len h p
 unfold big
 omega
theorem wL_cap {α : Type} {w : α → Int} (h : ∀ u, 0 ≤ w u) {p : List α} (hp : wL w p ≤ 1000000000) {n : Nat} (hn : 1000000000 ≤ n) : p.length ≤ n := by
 have := wL_len h p
 omega
theorem wL_mem {α : Type} {w : α → Int} (h : ∀ u, 0 ≤ w u) {p : List α} (hp : wL w p ≤ 1000000000) {u : α} (hu : u ∈ p) : w u ≤ 1000000000 := by
 have := sumW_mem (w := w) (us := p) (fun u _ => h u) u hu
 unfold wL at hp
 omega
theorem sumW_zero {α : Type} {w : α → Int} : ∀ p : List α, (∀ u, w u = 0) → sumW w p = 0
 | [], _ => rfl
 | u :: us, h => by
  have := sumW_zero us h
  have := h u
  unfold sumW
  omega
theorem wL_int (p : List Int) : wL wZ p = p.length := by
 have := sumW_zero (w := wZ) p fun _ => rfl
 unfold wL
 omega
theorem rd_mid {α : Type} (pre : List α) (u : α) (us : List α) : rd? (pre ++ u :: us) (pre.length : Int) = some u := by rw [rd?_at (by simp)]; simp
theorem st_mid {α : Type} (pre : List α) (u v : α) (us : List α) : st? (pre ++ u :: us) (pre.length : Int) v = some (pre ++ v :: us) := by rw [st?_at _ (by simp)]; simp
theorem p_l1All (p : List Int) (a b : Int) (hp : p.length ≤ big) : zp.f p a b = some (p.all fun u => decide (a ≤ u) && decide (u ≤ b)) := by
 unfold zp.f
 have := all_loop p hp (fun u => !(decide (a ≤ u) && decide (u ≤ b))) false (zp.l1 p a b) (fun k i => by rw [zp.l1]; simp only [p_l1In, Option.bind_some]) (((p.length : Int) - 0).toNat + 2) 0 (by omega) (by omega)
 rw [show ((0 : Nat) : Int) = 0 from rfl] at this
 rw [this, List.drop_zero]
 have e : p.any (fun u => !(decide (a ≤ u) && decide (u ≤ b))) = !p.all fun u => decide (a ≤ u) && decide (u ≤ b) := by rw [List.all_eq_not_any_not]; simp
 rw [e]
 cases h : p.all fun u => decide (a ≤ u) && decide (u ≤ b) <;> simp
def okT : Int → List Int → Bool
 | _, [] => true
 | L, [x] => decide (L ≤ x) && decide (x ≤ 1114111)
 | L, x :: y :: r => (decide (L ≤ x) && decide (x ≤ 1114111)) && (decide (x ≤ y) && decide (y ≤ 1114111)) && okT (y + 2) r
def okSet (s : List Int) : Bool := okT 0 s && decide (s.length % 2 = 0) && decide (s.length ≤ 24)
theorem okT_all : ∀ (s : List Int) (L : Int), 0 ≤ L → okT L s = true → ∀ x ∈ s, 0 ≤ x ∧ x ≤ 1114111
 | [], L, _, _, x, hx => by cases hx
 | [y], L, h0, h, x, hx => by
  simp only [okT, Bool.and_eq_true, decide_eq_true_eq] at h
  rw [List.mem_singleton.1 hx]
  omega
 | y :: z :: r, L, h0, h, x, hx => by
  simp only [okT, Bool.and_eq_true, decide_eq_true_eq] at h
  rcases List.mem_cons.1 hx with rfl | hx
  ·omega
  ·rcases List.mem_cons.1 hx with rfl | hx
   ·omega
   ·exact okT_all r (z + 2) (by omega) h.2 x hx
theorem rem2 (n : Nat) : rem? (n : Int) 2 = some (((n % 2 : Nat)) : Int) := by
 unfold rem?
 rw [if_neg (by decide), Int.tmod_eq_emod_of_nonneg (by omega)]
 congr 1
theorem p_implSet_l : ∀ (n : Nat) (rest pre : List Int) (L : Int), rest.length ≤ n → pre.length + rest.length ≤ big → pre.length % 2 = 0 → (pre = [] ∧ L = 0 ∨ ∃ q l, pre = q ++ [l] ∧ L = l + 2 ∧ 0 ≤ l ∧ l ≤ 1114111) → ∀ k, rest.length < k → z1g.l1 (pre ++ rest) k pre.length = some (if okT L rest then .go () else .ret false) := by
 intro n
 induction n with
 | zero =>
  intro rest pre L hn hb he hL k hk
  obtain rfl : rest = [] := List.eq_nil_of_length_eq_zero (by omega)
  obtain ⟨k, rfl⟩ := Nat.exists_eq_succ_of_ne_zero (show k ≠ 0 by omega)
  rw [z1g.l1, if_neg (by simp)]
  rfl
 | succ n ih =>
  intro rest pre L hn hb he hL k hk
  obtain ⟨k, rfl⟩ := Nat.exists_eq_succ_of_ne_zero (show k ≠ 0 by omega)
  cases rest with
  | nil =>
   rw [z1g.l1, if_neg (by simp)]
   rfl
  | cons x r =>
   unfold big at hb
   simp only [List.length_cons] at hn hb hk
   rw [z1g.l1, if_pos (by rw [decide_eq_true_eq]; simp only [List.length_append, List.length_cons]; omega), rd_mid]
   simp only [Option.bind_some]
   -- the first of two
   have e1 : ((if (decide ((pre.length : Int) > 0)) = true then ((rem? (pre.length : Int) 2).bind fun u437 => some (u437 == 0)) else (some false)).bind fun (o : Bool) => match o with | x435 => (if x435 = true then ((rd? (pre ++ x :: r) (IntKind.i64.wrap ((pre.length : Int) - 1))).bind fun u440 => some (IntKind.i64.wrap (u440 + 2))) else (if (decide ((pre.length : Int) > 0)) = true then ((rd? (pre ++ x :: r) (IntKind.i64.wrap ((pre.length : Int) - 1))).bind fun u443 => some u443) else (some 0)))) = some L := by
    rcases hL with ⟨rfl, rfl⟩ | ⟨q, l, rfl, rfl, l0, l1⟩
    ·rfl
    ·rw [rem2, he]
     have hp : decide ((((q ++ [l]).length : Nat) : Int) > 0) = true := by simp
     rw [hp]
     simp only [if_true, Option.bind_some]
     rw [if_pos (by decide), yp (n := (((q ++ [l]).length : Nat) : Int) - 1) (by simp <;> omega) (by simp at hb ⊢; omega)]
     have : (((q ++ [l]).length : Nat) : Int) - 1 = (q.length : Int) := by simp
     rw [this, List.append_assoc]
     show ((rd? (q ++ l :: (x :: r)) (q.length : Int)).bind _) = _
     rw [rd_mid]
     simp only [Option.bind_some]
     rw [yp (by omega) (by omega)]
   rw [e1]
   simp only [Option.bind_some, p_inRange]
   have hL0 : 0 ≤ L := by
    rcases hL with ⟨_, rfl⟩ | ⟨_, l, _, rfl, l0, l1⟩ <;> omega
   by_cases hx : L ≤ x ∧ x ≤ 1114111
   ·have c1 : (decide (L ≤ x) && decide (x ≤ 1114111)) = true := by simp [hx]
    rw [c1]
    simp only [Bool.not_true, Bool.false_eq_true, if_false]
    rw [wrapN pre.length (by omega)]
    cases r with
    | nil =>
     obtain ⟨k, rfl⟩ := Nat.exists_eq_succ_of_ne_zero (show k ≠ 0 by simp at hk; omega)
     rw [z1g.l1, if_neg (by simp)]
     simp only [okT, c1, if_true]
    | cons y r =>
     simp only [List.length_cons] at hn hb hk
     obtain ⟨k, rfl⟩ := Nat.exists_eq_succ_of_ne_zero (show k ≠ 0 by omega)
     have hl1 : ((pre.length + 1 : Nat) : Int) = ((pre ++ [x]).length : Int) := by simp
     have ha : pre ++ x :: y :: r = (pre ++ [x]) ++ y :: r := by simp
     rw [z1g.l1, hl1, ha, if_pos (by rw [decide_eq_true_eq]; simp only [List.length_append, List.length_cons]; omega), rd_mid]
     simp only [Option.bind_some]
     have e2 : ((if (decide ((((pre ++ [x]).length : Nat) : Int) > 0)) = true then ((rem? (((pre ++ [x]).length : Nat) : Int) 2).bind fun u437 => some (u437 == 0)) else (some false)).bind fun (o : Bool) => match o with | x435 => (if x435 = true then ((rd? ((pre ++ [x]) ++ y :: r) (IntKind.i64.wrap ((((pre ++ [x]).length : Nat) : Int) - 1))).bind fun u440 => some (IntKind.i64.wrap (u440 + 2))) else (if (decide ((((pre ++ [x]).length : Nat) : Int) > 0)) = true then ((rd? ((pre ++ [x]) ++ y :: r) (IntKind.i64.wrap ((((pre ++ [x]).length : Nat) : Int) - 1))).bind fun u443 => some u443) else (some 0)))) = some x := by
      rw [rem2]
      have hp : decide ((((pre ++ [x]).length : Nat) : Int) > 0) = true := by simp
      have hm : (pre ++ [x]).length % 2 = 1 := by simp; omega
      rw [hp, hm]
      simp only [if_true, Option.bind_some]
      rw [if_neg (by decide), yp (n := (((pre ++ [x]).length : Nat) : Int) - 1) (by simp <;> omega) (by simp <;> omega)]
      have : (((pre ++ [x]).length : Nat) : Int) - 1 = (pre.length : Int) := by simp
      rw [this, List.append_assoc]
      show ((rd? (pre ++ x :: (y :: r)) (pre.length : Int)).bind _) = _
      rw [rd_mid]
      rfl
     rw [e2]
     simp only [Option.bind_some, p_inRange]
     by_cases hy : x ≤ y ∧ y ≤ 1114111
     ·have c2 : (decide (x ≤ y) && decide (y ≤ 1114111)) = true := by simp [hy]
      rw [c2]
      simp only [Bool.not_true, Bool.false_eq_true, if_false]
      have hl2 : IntKind.i64.wrap ((((pre ++ [x]).length : Nat) : Int) + 1) = ((pre ++ [x] ++ [y]).length : Int) := by rw [yp (by simp <;> omega) (by simp <;> omega)]; simp only [List.length_append, List.length_singleton]; omega
      have ha2 : (pre ++ [x]) ++ y :: r = (pre ++ [x] ++ [y]) ++ r := by simp
      rw [hl2, ha2, ih r (pre ++ [x] ++ [y]) (y + 2) (by omega) (by simp [big]; omega) (by simp; omega) (.inr ⟨pre ++ [x], y, rfl, rfl, by omega, by omega⟩) k (by omega)]
      simp only [okT, c1, c2, Bool.and_self, Bool.true_and]
     ·have c2 : (decide (x ≤ y) && decide (y ≤ 1114111)) = false := by
       rw [Bool.and_eq_false_iff, decide_eq_false_iff_not, decide_eq_false_iff_not]; omega
      rw [c2]
      simp only [okT, c1, c2, Bool.false_and, Bool.and_false, Bool.not_false, if_true, Option.bind_some, Bool.false_eq_true, if_false]
   ·have c1 : (decide (L ≤ x) && decide (x ≤ 1114111)) = false := by
     rw [Bool.and_eq_false_iff, decide_eq_false_iff_not, decide_eq_false_iff_not]; omega
    rw [c1]
    have : okT L (x :: r) = false := by
     cases r with
     | nil => simp only [okT, c1]
     | cons y r => simp only [okT, c1, Bool.false_and]
    rw [this]
    rfl
theorem p_implSet (s : List Int) (hs : s.length ≤ big) : z1g.f s = some (okSet s) := by
 unfold z1g.f
 have := p_implSet_l s.length s [] 0 (Nat.le_refl _) (by simpa using hs) rfl (.inl ⟨rfl, rfl⟩) (((s.length : Int) - 0).toNat + 2) (by omega)
 rw [List.nil_append, show ((([] : List Int).length : Nat) : Int) = 0 from rfl] at this
 rw [this, rem2]
 unfold okSet
 cases okT 0 s with
 | false => rfl
 | true =>
  simp only [if_true, Option.bind_some, Bool.true_and]
  by_cases h : s.length % 2 = 0
  ·rw [h, if_pos (by decide)]
   simp
   omega
  ·rw [if_neg (by simp; omega)]
   simp [h]
theorem p_specSet_l : ∀ (n : Nat) (rest pre : List Int) (L : Int), rest.length ≤ n → pre.length + rest.length ≤ big → rest.length % 2 = 0 → (∀ x ∈ rest, 0 ≤ x ∧ x ≤ 1114111) → (pre = [] ∧ L = 0 ∨ ∃ q l, pre = q ++ [l] ∧ L = l + 2 ∧ 0 ≤ l ∧ l ≤ 1114111) → ∀ k, rest.length < k → z0p.l1 (pre ++ rest) k pre.length = some (if okT L rest then .go () else .ret false) := by
 intro n
 induction n with
 | zero =>
  intro rest pre L hn hb he hr hL k hk
  obtain rfl : rest = [] := List.eq_nil_of_length_eq_zero (by omega)
  obtain ⟨k, rfl⟩ := Nat.exists_eq_succ_of_ne_zero (show k ≠ 0 by omega)
  rw [z0p.l1, if_neg (by simp)]
  rfl
 | succ n ih =>
  intro rest pre L hn hb he hr hL k hk
  obtain ⟨k, rfl⟩ := Nat.exists_eq_succ_of_ne_zero (show k ≠ 0 by omega)
  match rest, hn, hb, he, hr, hk with
  | [], _, _, _, _, _ =>
   rw [z0p.l1, if_neg (by simp)]
   rfl
  | [x], _, _, he, _, _ => simp at he
  | x :: y :: r, hn, hb, he, hr, hk =>
   unfold big at hb
   simp only [List.length_cons] at hn hb hk he
   have hx := hr x (by simp)
   have hy := hr y (by simp)
   have ha : pre ++ x :: y :: r = (pre ++ [x]) ++ y :: r := by simp
   have hl1 : IntKind.i64.wrap ((pre.length : Int) + 1) = ((pre ++ [x]).length : Int) := by rw [yp (by omega) (by omega)]; simp only [List.length_append, List.length_singleton]; omega
   have ry : rd? (pre ++ x :: y :: r) (IntKind.i64.wrap ((pre.length : Int) + 1)) = some y := by rw [hl1, ha, rd_mid]
   rw [z0p.l1, if_pos (by rw [decide_eq_true_eq]; simp only [List.length_append, List.length_cons]; omega), rd_mid, ry]
   simp only [Option.bind_some]
   have e1 : (if (decide ((pre.length : Int) > 0)) = true then ((rd? (pre ++ x :: y :: r) (IntKind.i64.wrap ((pre.length : Int) - 1))).bind fun u269 => some (decide (x < (IntKind.i64.wrap (u269 + 2))))) else (some false)) = some (decide (x < L)) := by
    rcases hL with ⟨rfl, rfl⟩ | ⟨q, l, rfl, rfl, l0, l1⟩
    ·have : decide (x < 0) = false := by simp; omega
     rw [this]; rfl
    ·rw [if_pos (by simp), yp (n := (((q ++ [l]).length : Nat) : Int) - 1) (by simp <;> omega) (by simp at hb ⊢; omega)]
     have : (((q ++ [l]).length : Nat) : Int) - 1 = (q.length : Int) := by simp
     rw [this, List.append_assoc]
     show ((rd? (q ++ l :: (x :: y :: r)) (q.length : Int)).bind _) = _
     rw [rd_mid]
     simp only [Option.bind_some]
     rw [yp (by omega) (by omega)]
   rw [e1]
   have c0 : decide (x ≤ 1114111) = true := by simp; omega
   have c3 : decide (y ≤ 1114111) = true := by simp; omega
   by_cases hxy : x > y
   ·rw [if_pos (by simpa using hxy)]
    have : decide (x ≤ y) = false := by simp; omega
    simp only [okT, this, Bool.false_and, Bool.and_false, Option.bind_some, if_true, Bool.false_eq_true, if_false]
   ·have c1 : decide (x ≤ y) = true := by simp; omega
    rw [if_neg (by simpa using hxy)]
    simp only [Option.bind_some]
    by_cases hxl : x < L
    ·have c2 : decide (L ≤ x) = false := by simp; omega
     rw [if_pos (by simpa using hxl)]
     simp only [okT, c2, Bool.false_and, Option.bind_some, Bool.false_eq_true, if_false]
    ·have c2 : decide (L ≤ x) = true := by simp; omega
     rw [if_neg (by simpa using hxl)]
     have hl2 : IntKind.i64.wrap ((pre.length : Int) + 2) = ((pre ++ [x] ++ [y]).length : Int) := by rw [yp (by omega) (by omega)]; simp only [List.length_append, List.length_singleton]; omega
     have ha2 : pre ++ x :: y :: r = (pre ++ [x] ++ [y]) ++ r := by simp
     rw [hl2, ha2, ih r (pre ++ [x] ++ [y]) (y + 2) (by omega) (by simp [big]; omega) (by omega) (fun z hz => hr z (by simp [hz])) (.inr ⟨pre ++ [x], y, rfl, rfl, by omega, by omega⟩) k (by omega)]
     simp only [okT, c0, c1, c2, c3, Bool.and_self, Bool.true_and]
theorem p_specSet (s : List Int) (hs : s.length ≤ big) : z0p.f s = some (okSet s) := by
 unfold z0p.f
 rw [rem2, p_l1All s 0 1114111 hs]
 unfold okSet
 by_cases h1 : s.length % 2 = 1
 ·rw [h1]
  simp [h1]
 ·have h2 : s.length % 2 = 0 := by omega
  rw [h2]
  simp only [Option.bind_some]
  rw [if_neg (by decide)]
  by_cases h3 : (s.length : Int) > 24
  ·rw [if_pos (by simpa using h3)]
   have : decide (s.length ≤ 24) = false := by simp; omega
   rw [this, Bool.and_false]
   rfl
  ·have d3 : decide (s.length ≤ 24) = true := by simp; omega
   rw [if_neg (by simpa using h3), d3]
   simp only [Option.bind_some]
   cases h4 : (s.all fun u => decide (0 ≤ u) && decide (u ≤ 1114111)) with
   | false =>
    have : okT 0 s = false := by
     by_cases h : okT 0 s = true
     ·have h5 := okT_all s 0 (by omega) h
      have : (s.all fun u => decide (0 ≤ u) && decide (u ≤ 1114111)) = true := by
       rw [List.all_eq_true]
       intro x hx
       have := h5 x hx
       simp; omega
      rw [this] at h4; cases h4
     ·simpa using h
    rw [this]
    rfl
   | true =>
    have hr : ∀ x ∈ s, 0 ≤ x ∧ x ≤ 1114111 := fun x hx => by
     have := (List.all_eq_true.1 h4) x hx
     simpa using this
    have := p_specSet_l s.length s [] 0 (Nat.le_refl _) (by simpa using hs) h2 hr (.inl ⟨rfl, rfl⟩) (((s.length : Int) - 0).toNat + 2) (by omega)
    rw [List.nil_append, show ((([] : List Int).length : Nat) : Int) = 0 from rfl] at this
    simp only [Bool.not_true, Bool.false_eq_true, if_false, this, Option.bind_some]
    cases okT 0 s <;> simp
def okRune (r : Int) : Bool := decide (0 ≤ r) && decide (r ≤ 1114111) && !(decide (55296 ≤ r) && decide (r ≤ 57343))
theorem p_specRune (r : Int) : zg.f r = some (okRune r) := by
 unfold zg.f okRune
 simp only [p_l1In, Option.bind_some]
 cases (decide (0 ≤ r) && decide (r ≤ 1114111)) <;> rfl
theorem p_implRune (r : Int) : z16.f r = some (okRune r) := by
 unfold z16.f okRune
 simp only [p_inRange, Option.bind_some]
 cases (decide (0 ≤ r) && decide (r ≤ 1114111)) <;> rfl
theorem p_allRunes (p : List Int) (hp : p.length ≤ big) : zo.f p = some (p.all okRune && decide (p.length ≤ 1000)) := by
 unfold zo.f
 have := all_loop p hp (fun u => !okRune u) false (zo.l1 p) (fun k i => by rw [zo.l1]; simp only [p_specRune, Option.bind_some]) (((p.length : Int) - 0).toNat + 2) 0 (by omega) (by omega)
 rw [show ((0 : Nat) : Int) = 0 from rfl] at this
 rw [this, List.drop_zero]
 have e : p.any (fun u => !okRune u) = !p.all okRune := by rw [List.all_eq_not_any_not]; simp
 rw [e]
 cases h : p.all okRune <;> simp
 omega
abbrev Nd := Int × List Int
/-- How many parts a node has. -/
def ar (k : Int) : Int := if k = 1 ∨ k = 2 then 0 else if k = 6 ∨ k = 7 then 1 else if k = 3 ∨ k = 4 ∨ k = 5 then 2 else -1
theorem p_partsOf (k : Int) : z1n.f k = some (ar k) := by
 unfold z1n.f ar
 by_cases h1 : k = 1
 ·subst h1; rfl
 ·by_cases h2 : k = 2
  ·subst h2; rfl
  ·by_cases h6 : k = 6
   ·subst h6; rfl
   ·by_cases h7 : k = 7
    ·subst h7; rfl
    ·by_cases h3 : k = 3
     ·subst h3; rfl
     ·by_cases h4 : k = 4
      ·subst h4; rfl
      ·by_cases h5 : k = 5
       ·subst h5; rfl
       ·simp [h1, h2, h3, h4, h5, h6, h7]
theorem p_arity (k : Int) : z0q.f k = some (ar k) := by
 unfold z0q.f ar
 by_cases h1 : k = 1
 ·subst h1; rfl
 ·by_cases h2 : k = 2
  ·subst h2; rfl
  ·by_cases h6 : k = 6
   ·subst h6; rfl
   ·by_cases h7 : k = 7
    ·subst h7; rfl
    ·by_cases h3 : k = 3
     ·subst h3; rfl
     ·by_cases h4 : k = 4
      ·subst h4; rfl
      ·by_cases h5 : k = 5
       ·subst h5; rfl
       ·simp [h1, h2, h3, h4, h5, h6, h7]
theorem ar_bd (k : Int) : -1 ≤ ar k ∧ ar k ≤ 2 := by unfold ar; split <;> (try split) <;> (try split) <;> omega
def okNd (u : Nd) : Bool := okSet u.2 && u.2.all okRune && (u.1 == 2 || decide (u.2.length = 0))
theorem okSet_len {s : List Int} (h : okSet s = true) : s.length ≤ 24 := by
 simp only [okSet, Bool.and_eq_true, decide_eq_true_eq] at h
 exact h.2
theorem p_implNd_1 (p : List Int) (hp : p.length ≤ big) : z1j.f p = some (!p.all okRune) := by
 unfold z1j.f z1i.f
 have := scan_loop p hp (fun u => !okRune u) (fun i _ => i) (z1i.l1 p) (fun k i => by rw [z1i.l1]; simp only [z1h.f, p_implRune, Option.bind_some]) (((p.length : Int) - 0).toNat + 2) 0 (by omega) (by omega)
 rw [show ((0 : Nat) : Int) = 0 from rfl] at this
 rw [this, List.drop_zero]
 have e : p.all okRune = !(p.any fun u => !okRune u) := List.all_eq_not_any_not
 rw [e, Bool.not_not]
 cases hf : p.findIdx? (fun u => !okRune u) with
 | none =>
  have : p.any (fun u => !okRune u) = false := by
   rw [List.findIdx?_eq_none_iff] at hf
   simpa using hf
  rw [this]; simp
 | some j =>
  obtain ⟨hj, h1, h2⟩ := List.findIdx?_eq_some_iff_getElem.1 hf
  have : p.any (fun u => !okRune u) = true := List.any_eq_true.2 ⟨_, List.getElem_mem hj, h1⟩
  rw [this]
  simp [hj]
theorem p_implNd (u : Nd) (hu : u.2.length ≤ big) : z1k.f u.1 u.2 = some (!okNd u) := by
 unfold z1k.f okNd
 rw [p_implSet u.2 hu, p_implNd_1 u.2 hu]
 simp only [Option.bind_some]
 cases okSet u.2 with
 | false => rfl
 | true =>
  cases u.2.all okRune with
  | false => rfl
  | true =>
   simp only [Bool.not_true, Bool.false_eq_true, if_false, Bool.true_and]
   by_cases h : u.1 = 2
   ·simp [h]
   ·have h1 : (u.1 != 2) = true := by simpa using h
    have h2 : (u.1 == 2) = false := by simpa using h
    rw [h1, h2]
    simp only [if_true, Bool.false_or]
    by_cases hl : u.2.length = 0
    ·simp [hl]
    ·have := Nat.pos_of_ne_zero hl
     simp [hl, this]
theorem p_specNd (u : Nd) (hu : u.2.length ≤ big) : z2g.f u.1 u.2 = some (decide (0 ≤ ar u.1) && okNd u) := by
 unfold z2g.f okNd
 rw [p_arity, p_specSet u.2 hu, p_allRunes u.2 hu]
 simp only [Option.bind_some]
 by_cases ha : ar u.1 < 0
 ·have h0 : decide (0 ≤ ar u.1) = false := by simp; omega
  rw [if_pos (by simpa using ha), h0]
  rfl
 ·have h0 : decide (0 ≤ ar u.1) = true := by simp; omega
  rw [if_neg (by simpa using ha), h0]
  cases hs : okSet u.2 with
  | false =>
   simp only [Bool.false_and, Bool.and_false]
   by_cases h : u.1 = 2
   ·simp [h]
   ·by_cases hl : (u.2.length : Int) > 0 <;> simp [h, hl]
  | true =>
   have hl := okSet_len hs
   have d : decide (u.2.length ≤ 1000) = true := by simp; omega
   rw [d, Bool.and_true]
   by_cases h : u.1 = 2
   ·simp [h]
   ·by_cases hl2 : u.2.length = 0
    ·simp [h, hl2]
    ·have h1 : (u.1 == 2) = false := by simpa using h
     have := Nat.pos_of_ne_zero hl2
     simp [h, h1, hl2, this]
/-- Nodes, put on a pile of their last parts. -/
def pileR : List Nd → Int → List Int → List (List Int) → Option (List (List Int) × List Int)
 | [], _, pile, out => some (out, pile)
 | u :: us, i, pile, out => if ar u.1 < 0 ∨ ar u.1 > pile.length then none else pileR us (i + 1) (pile.take (pile.length - (ar u.1).toNat) ++ [i]) (out ++ [pile.drop (pile.length - (ar u.1).toNat)])
def okRe (p : List Nd) : Bool := (decide (1 ≤ (p.length : Int)) && decide ((p.length : Int) ≤ 40)) && p.all okNd && (match pileR p 0 [] [] with | some (_, pile) => ((pile.length : Int) == 1) | none => false)
theorem p_parts_l : ∀ (rest pre : List Nd) (pile : List Int) (out : List (List Int)), pre.length + rest.length ≤ 1000000 → pile.length ≤ pre.length → out.length = pre.length → ∀ k, rest.length < k → z1p.l1 (pre ++ rest) k out pile pre.length = some (match pileR rest pre.length pile out with | some (o, q) => .go (o, q) | none => .ret ([], false)) := by
 intro rest
 induction rest with
 | nil =>
  intro pre pile out hb hp ho k hk
  obtain ⟨k, rfl⟩ := Nat.exists_eq_succ_of_ne_zero (show k ≠ 0 by omega)
  rw [z1p.l1, if_neg (by simp)]
  rfl
 | cons u us ih =>
  intro pre pile out hb hp ho k hk
  obtain ⟨k, rfl⟩ := Nat.exists_eq_succ_of_ne_zero (show k ≠ 0 by omega)
  simp only [List.length_cons] at hb hk
  rw [z1p.l1, if_pos (by rw [decide_eq_true_eq]; simp only [List.length_append, List.length_cons]; omega), rd_mid]
  simp only [Option.bind_some, p_partsOf]
  unfold pileR
  have hbd := ar_bd u.1
  by_cases h1 : ar u.1 < 0
  ·rw [if_pos (by simpa using h1), if_pos (.inl h1)]
   rfl
  ·rw [if_neg (by simpa using h1)]
   simp only [Option.bind_some]
   by_cases h2 : ar u.1 > pile.length
   ·rw [if_pos (by simpa using h2), if_pos (.inr h2)]
    try rfl
   ·rw [if_neg (by simpa using h2), if_neg (by omega)]
    obtain ⟨m, hm⟩ := Int.eq_ofNat_of_zero_le (show 0 ≤ ar u.1 by omega)
    rw [hm] at h2 ⊢
    have hml : m ≤ pile.length := by omega
    rw [yp (n := (pile.length : Int) - m) (by omega) (by omega), show (pile.length : Int) - m = ((pile.length - m : Nat) : Int) by omega, Int.toNat_natCast]
    have c1 := cut?_at (xs := pile) (a := pile.length - m) (b := pile.length) (by omega) (Nat.le_refl _)
    have c2 := cut?_at (xs := pile) (a := 0) (b := pile.length - m) (by omega) (by omega)
    rw [show ((0 : Nat) : Int) = 0 from rfl] at c2
    rw [c1, c2]
    simp only [Option.bind_some, List.take_length, List.drop_zero, z1o.f]
    rw [app?_at (by simp; omega)]
    simp only [Option.bind_some, List.nil_append]
    rw [app?_at (by simp; omega)]
    simp only [Option.bind_some]
    rw [app?_at (by simp; omega)]
    simp only [Option.bind_some]
    rw [wrapN pre.length (by omega)]
    have := ih (pre ++ [u]) (pile.take (pile.length - m) ++ [(pre.length : Int)]) (out ++ [pile.drop (pile.length - m)]) (by simp; omega) (by simp; omega) (by simp [ho]) k (by omega)
    simp only [List.length_append, List.length_cons, List.length_nil, Nat.zero_add, List.append_assoc, List.cons_append, List.nil_append] at this
    rw [this]
    rfl
theorem p_parts (p : List Nd) (hp : p.length ≤ 1000000) : z1p.f p = some (match pileR p 0 [] [] with | some (o, q) => (o, ((q.length : Int) == 1)) | none => ([], false)) := by
 unfold z1p.f
 have := p_parts_l p [] [] [] (by simpa using hp) (Nat.le_refl _) rfl (((p.length : Int) - 0).toNat + 2) (by omega)
 rw [List.nil_append, show ((([] : List Nd).length : Nat) : Int) = 0 from rfl] at this
 rw [this]
 cases pileR p 0 [] [] with
 | none => rfl
 | some o => rfl
theorem p_implRe (p : List Nd) (hp : p.length ≤ big) (hq : ∀ u ∈ p, u.2.length ≤ big) : z1q.f p = some (okRe p) := by
 unfold z1q.f okRe
 simp only [p_inRange, Option.bind_some]
 cases h1 : (decide (1 ≤ (p.length : Int)) && decide ((p.length : Int) ≤ 40)) with
 | false => rfl
 | true =>
  have hl : p.length ≤ 40 := by simp only [Bool.and_eq_true, decide_eq_true_eq] at h1; omega
  simp only [Bool.not_true, Bool.false_eq_true, if_false, Bool.true_and]
  have key : z1m.f p = some (!p.all okNd) := by
   unfold z1m.f z1l.f
   have key : ∀ (k i : Nat), i ≤ p.length → p.length - i < k → ∃ o, z1l.l1 p k i = some o ∧ (if (p.drop i).all okNd then o = .go () else ∃ n : Int, 0 ≤ n ∧ o = .ret n) := by
    intro k
    induction k with
    | zero => intro i _ h; omega
    | succ k ih =>
     intro i hi hk
     rw [z1l.l1]
     by_cases h : i < p.length
     ·rw [if_pos (by simpa using h), rd?_at h]
      simp only [Option.bind_some]
      rw [p_implNd _ (hq _ (List.getElem_mem h))]
      simp only [Option.bind_some]
      rw [List.drop_eq_getElem_cons h, List.all_cons]
      cases hr : okNd p[i] with
      | false => exact ⟨.ret i, by simp, by simp⟩
      | true =>
       simp only [Bool.not_true, Bool.false_eq_true, if_false, Bool.true_and]
       rw [wrapN i (by omega)]
       exact ih (i + 1) h (by omega)
     ·rw [if_neg (by simpa using h)]
      exact ⟨_, rfl, by simp [List.drop_eq_nil_of_le (by omega : p.length ≤ i)]⟩
   obtain ⟨o, g1, g2⟩ := key (((p.length : Int) - 0).toNat + 2) 0 (by omega) (by omega)
   rw [show ((0 : Nat) : Int) = 0 from rfl] at g1
   rw [g1]
   rw [List.drop_zero] at g2
   cases hr : p.all okNd with
   | true =>
    rw [hr, if_pos rfl] at g2
    subst g2
    rfl
   | false =>
    rw [hr] at g2
    obtain ⟨m, hm, rfl⟩ := g2
    simp [hm]
  rw [key]
  simp only [Option.bind_some]
  cases p.all okNd with
  | false => rfl
  | true =>
   simp only [Bool.not_true, Bool.false_eq_true, if_false, Bool.true_and]
   rw [p_parts p (by omega)]
   cases pileR p 0 [] [] with
   | none => rfl
   | some o => rfl
/-- The pile's height alone. -/
def highR : List Nd → Int → Option Int
 | [], n => some n
 | u :: us, n => if ar u.1 < 0 ∨ ar u.1 > n then none else highR us (n + (1 - ar u.1))
theorem pile_high : ∀ (us : List Nd) (i : Int) (pile : List Int) (out : List (List Int)), (pileR us i pile out).map (fun o => (o.2.length : Int)) = highR us pile.length
 | [], i, pile, out => rfl
 | u :: us, i, pile, out => by
  unfold pileR highR
  split
  ·rfl
  ·rename_i h
   rw [pile_high us]
   congr 1
   simp
   omega
theorem high_bd : ∀ (us : List Nd) (n d : Int), 0 ≤ n → highR us n = some d → 0 ≤ d ∧ d ≤ n + us.length
 | [], n, d, h0, h => by
  obtain rfl := Option.some.inj h
  simp; omega
 | u :: us, n, d, h0, h => by
  unfold highR at h
  split at h
  ·cases h
  ·have := ar_bd u.1
   have := high_bd us _ d (by omega) h
   simp only [List.length_cons]
   omega
theorem p_l5Good_l : ∀ (rest pre : List Nd) (n : Int), pre.length + rest.length ≤ 1000000 → 0 ≤ n → n ≤ pre.length → (∀ u ∈ rest, u.2.length ≤ big) → ∀ k, rest.length < k → z2h.l1 (pre ++ rest) k n pre.length = some (if rest.all okNd then (match highR rest n with | some d => .go d | none => .ret false) else .ret false) := by
 intro rest
 induction rest with
 | nil =>
  intro pre n hb h0 h1 hq k hk
  obtain ⟨k, rfl⟩ := Nat.exists_eq_succ_of_ne_zero (show k ≠ 0 by omega)
  rw [z2h.l1, if_neg (by simp)]
  rfl
 | cons u us ih =>
  intro pre n hb h0 h1 hq k hk
  obtain ⟨k, rfl⟩ := Nat.exists_eq_succ_of_ne_zero (show k ≠ 0 by omega)
  simp only [List.length_cons] at hb hk
  rw [z2h.l1, if_pos (by rw [decide_eq_true_eq]; simp only [List.length_append, List.length_cons]; omega), rd_mid]
  simp only [Option.bind_some]
  rw [p_specNd u (hq u (by simp)), p_arity]
  simp only [Option.bind_some]
  have hbd := ar_bd u.1
  rw [List.all_cons]
  unfold highR
  cases hn : okNd u with
  | false =>
   simp only [Bool.and_false, Bool.not_false, if_true, Option.bind_some, Bool.false_and, Bool.false_eq_true, if_false]
  | true =>
   simp only [Bool.and_true, Bool.true_and]
   by_cases ha : ar u.1 < 0
   ·have : decide (0 ≤ ar u.1) = false := by simp; omega
    rw [this, if_pos (show ar u.1 < 0 ∨ ar u.1 > n from .inl ha)]
    simp only [Bool.not_false, if_true, Option.bind_some]
    split <;> rfl
   ·have : decide (0 ≤ ar u.1) = true := by simp; omega
    rw [this]
    simp only [Bool.not_true, Bool.false_eq_true, if_false, Option.bind_some]
    by_cases hg : n < ar u.1
    ·rw [if_pos (by simpa using hg), if_pos (show ar u.1 < 0 ∨ ar u.1 > n by omega)]
     simp only [Option.bind_some]
     split <;> rfl
    ·rw [if_neg (by simpa using hg), if_neg (show ¬ (ar u.1 < 0 ∨ ar u.1 > n) by omega)]
     rw [yp (n := 1 - ar u.1) (by omega) (by omega), yp (n := n + (1 - ar u.1)) (by omega) (by omega), wrapN pre.length (by omega)]
     have := ih (pre ++ [u]) (n + (1 - ar u.1)) (by simp; omega) (by omega) (by simp; omega) (fun v hv => hq v (List.mem_cons_of_mem _ hv)) k (by omega)
     simp only [List.length_append, List.length_cons, List.length_nil, Nat.zero_add, List.append_assoc, List.cons_append, List.nil_append] at this
     exact this
theorem p_specRe (p : List Nd) (hp : p.length ≤ big) (hq : ∀ u ∈ p, u.2.length ≤ big) : z2i.f p = some (okRe p) := by
 unfold z2i.f okRe
 by_cases h : (p.length : Int) ≤ 40
 ·have d1 : decide ((p.length : Int) ≤ 40) = true := by simpa using h
  rw [if_pos (by simpa using h), d1, Bool.and_true]
  unfold z2h.f
  have := p_l5Good_l p [] 0 (by simp; omega) (Int.le_refl _) (Int.le_refl _) hq (((p.length : Int) - 0).toNat + 2) (by omega)
  rw [List.nil_append, show ((([] : List Nd).length : Nat) : Int) = 0 from rfl] at this
  rw [this]
  have hh := pile_high p 0 [] []
  rw [show ((([] : List Int).length : Nat) : Int) = 0 from rfl] at hh
  cases p.all okNd with
  | false => simp
  | true =>
   simp only [if_true, Option.bind_some, Bool.and_true]
   cases hp0 : pileR p 0 [] [] with
   | none =>
    rw [hp0] at hh
    rw [← hh]
    simp
   | some o =>
    rw [hp0] at hh
    rw [← hh]
    simp only [Option.map_some]
    by_cases hz : 1 ≤ (p.length : Int)
    ·have : decide (1 ≤ (p.length : Int)) = true := by simpa using hz
     rw [this]
     rfl
    ·have hnil : p = [] := List.eq_nil_of_length_eq_zero (by omega)
     subst hnil
     have : o = ([], []) := (Option.some.inj hp0).symm
     subst this
     rfl
 ·have d1 : decide ((p.length : Int) ≤ 40) = false := by simpa using h
  rw [if_neg (by simpa using h), d1, Bool.and_false]
  rfl
inductive RT where
 | nil : RT
 | set : List Int → RT
 | cat : RT → RT → RT
 | or : RT → RT → RT
 | and : RT → RT → RT
 | star : RT → RT
 | not : RT → RT
def inS : List Int → Int → Bool
 | lo :: hi :: r, x => (decide (lo ≤ x) && decide (x ≤ hi)) || inS r x
 | _, _ => false
def starF (f : List Int → Bool) : Nat → List Int → Bool
 | 0, w => w.isEmpty
 | n + 1, w => w.isEmpty || (List.range w.length).any fun i => f (w.take (i + 1)) && starF f n (w.drop (i + 1))
/-- What a pattern matches. -/
def acc : RT → List Int → Bool
 | .nil, w => w.isEmpty
 | .set s, w => match w with
  | [x] => inS s x
  | _ => false
 | .cat a b, w => (List.range (w.length + 1)).any fun i => acc a (w.take i) && acc b (w.drop i)
 | .or a b, w => acc a w || acc b w
 | .and a b, w => acc a w && acc b w
 | .star a, w => starF (acc a) w.length w
 | .not a, w => !acc a w
theorem starF_more (f : List Int → Bool) : ∀ (n m : Nat) (w : List Int), w.length ≤ n → w.length ≤ m → starF f n w = starF f m w
 | 0, 0, w, _, _ => rfl
 | 0, m + 1, w, h, _ => by
  obtain rfl : w = [] := List.eq_nil_of_length_eq_zero (by omega)
  rfl
 | n + 1, 0, w, _, h => by
  obtain rfl : w = [] := List.eq_nil_of_length_eq_zero (by omega)
  rfl
 | n + 1, m + 1, w, h1, h2 => by
  unfold starF
  congr 1
  rw [Bool.eq_iff_iff, List.any_eq_true, List.any_eq_true]
  constructor
  ·rintro ⟨i, hi, h⟩
   rw [List.mem_range] at hi
   refine ⟨i, List.mem_range.2 hi, ?_⟩
   rw [← starF_more f n m _ (by simp; omega) (by simp; omega)]
   exact h
  ·rintro ⟨i, hi, h⟩
   rw [List.mem_range] at hi
   refine ⟨i, List.mem_range.2 hi, ?_⟩
   rw [starF_more f n m _ (by simp; omega) (by simp; omega)]
   exact h
theorem acc_star (a : RT) (w : List Int) : acc (.star a) w = (w.isEmpty || (List.range w.length).any fun i => acc a (w.take (i + 1)) && acc (.star a) (w.drop (i + 1))) := by
 show starF (acc a) w.length w = _
 cases w with
 | nil => rfl
 | cons x w =>
  rw [List.length_cons]
  conv => lhs; unfold starF
  congr 1
  rw [Bool.eq_iff_iff, List.any_eq_true, List.any_eq_true]
  have key : ∀ i, i < (x :: w).length → starF (acc a) w.length ((x :: w).drop (i + 1)) = acc (.star a) ((x :: w).drop (i + 1)) := fun i hi => by
   show _ = starF (acc a) _ _
   exact starF_more _ _ _ _ (by simp) (Nat.le_refl _)
  constructor
  ·rintro ⟨i, hi, h⟩
   rw [key i (List.mem_range.1 hi)] at h
   exact ⟨i, hi, h⟩
  ·rintro ⟨i, hi, h⟩
   refine ⟨i, hi, ?_⟩
   rw [key i (List.mem_range.1 hi)]
   exact h
/-- A part of a list. -/
def seg (l : List Int) (f t : Nat) : List Int := (l.take t).drop f
theorem seg_len (l : List Int) (f t : Nat) (ht : t ≤ l.length) : (seg l f t).length = t - f := by simp [seg]; omega
theorem seg_take (l : List Int) (f t i : Nat) (h : f + i ≤ t) : (seg l f t).take i = seg l f (f + i) := by
 unfold seg
 rw [List.take_drop, List.take_take, Nat.min_eq_left (by omega)]
theorem seg_drop (l : List Int) (f t i : Nat) : (seg l f t).drop i = seg l (f + i) t := by
 unfold seg
 rw [List.drop_drop]
theorem seg_empty (l : List Int) (f t : Nat) (hf : f ≤ t) (ht : t ≤ l.length) : (seg l f t).isEmpty = decide (f = t) := by
 rw [Bool.eq_iff_iff, List.isEmpty_iff_length_eq_zero, seg_len l f t ht, decide_eq_true_eq]
 omega
theorem seg_one (l : List Int) (f : Nat) (h : f < l.length) : seg l f (f + 1) = [l[f]] := by
 unfold seg
 rw [List.take_succ_eq_append_getElem h, List.drop_append_of_le_length (by simp; omega), List.drop_of_length_le (by simp; omega)]
 rfl
theorem acc_nil_seg (l : List Int) (f t : Nat) (hf : f ≤ t) (ht : t ≤ l.length) : acc .nil (seg l f t) = decide (f = t) := seg_empty l f t hf ht
theorem acc_set_seg (s : List Int) (l : List Int) (f t : Nat) (hf : f ≤ t) (ht : t ≤ l.length) : acc (.set s) (seg l f t) = if h : t = f + 1 then inS s (l[f]'(by omega)) else false := by
 by_cases h : t = f + 1
 ·subst h
  rw [seg_one l f (by omega)]
  simp [acc]
 ·rw [dif_neg h]
  have hl := seg_len l f t ht
  unfold acc
  split
  ·rename_i x hx
   rw [hx] at hl
   simp at hl
   omega
  ·rfl
/-- Over the places between. -/
theorem acc_cat_seg (a b : RT) (l : List Int) (f t : Nat) (hf : f ≤ t) (ht : t ≤ l.length) : acc (.cat a b) (seg l f t) = (List.range (t - f + 1)).any fun i => acc a (seg l f (f + i)) && acc b (seg l (f + i) t) := by
 show (List.range ((seg l f t).length + 1)).any _ = _
 rw [seg_len l f t ht, Bool.eq_iff_iff, List.any_eq_true, List.any_eq_true]
 constructor
 ·rintro ⟨i, hi, h⟩
  have := List.mem_range.1 hi
  rw [seg_take l f t i (by omega), seg_drop] at h
  exact ⟨i, hi, h⟩
 ·rintro ⟨i, hi, h⟩
  have := List.mem_range.1 hi
  refine ⟨i, hi, ?_⟩
  rw [seg_take l f t i (by omega), seg_drop]
  exact h
theorem acc_star_seg (a : RT) (l : List Int) (f t : Nat) (hf : f ≤ t) (ht : t ≤ l.length) : acc (.star a) (seg l f t) = (decide (f = t) || (List.range (t - f)).any fun i => acc a (seg l f (f + 1 + i)) && acc (.star a) (seg l (f + 1 + i) t)) := by
 rw [acc_star, seg_empty l f t hf ht, seg_len l f t ht]
 congr 1
 rw [Bool.eq_iff_iff, List.any_eq_true, List.any_eq_true]
 constructor
 ·rintro ⟨i, hi, h⟩
  have := List.mem_range.1 hi
  rw [seg_take l f t (i + 1) (by omega), seg_drop, show f + (i + 1) = f + 1 + i by omega] at h
  exact ⟨i, hi, h⟩
 ·rintro ⟨i, hi, h⟩
  have := List.mem_range.1 hi
  refine ⟨i, hi, ?_⟩
  rw [seg_take l f t (i + 1) (by omega), seg_drop, show f + (i + 1) = f + 1 + i by omega]
  exact h
/-- The tree of a node, of its parts' trees. -/
def mkT (u : Nd) (ks : List RT) : RT :=
 if u.1 = 1 then .nil else if u.1 = 2 then .set u.2 else
 match ks with
 | [a] => if u.1 = 6 then .star a else .not a
 | [a, b] => if u.1 = 3 then .cat a b else if u.1 = 4 then .or a b else .and a b
 | _ => .nil
/-- All trees, in their nodes' order. -/
def getT (ts : List RT) (i : Int) : RT := (ts[i.toNat]?).getD .nil
def bld : List (List Int × Nd) → List RT → List RT
 | [], ts => ts
 | (ks, u) :: r, ts => bld r (ts ++ [mkT u (ks.map (getT ts))])
theorem bld_len : ∀ (r : List (List Int × Nd)) (ts : List RT), (bld r ts).length = ts.length + r.length
 | [], ts => by simp [bld]
 | (ks, u) :: r, ts => by rw [bld, bld_len r]; simp; omega
theorem bld_pre : ∀ (r : List (List Int × Nd)) (ts : List RT) (i : Nat), i < ts.length → (bld r ts)[i]? = ts[i]?
 | [], ts, i, h => rfl
 | (ks, u) :: r, ts, i, h => by
  rw [bld, bld_pre r _ i (by simp; omega), List.getElem?_append_left h]
theorem bld_at : ∀ (r : List (List Int × Nd)) (ts : List RT) (i : Nat) (ks : List Int) (u : Nd), r[i]? = some (ks, u) → (∀ k ∈ ks, 0 ≤ k ∧ k < ts.length + i) → (bld r ts)[ts.length + i]? = some (mkT u (ks.map (getT (bld r ts))))
 | [], ts, i, ks, u, h, _ => by simp at h
 | (ks', u') :: r, ts, 0, ks, u, h, hk => by
  obtain ⟨rfl, rfl⟩ : ks' = ks ∧ u' = u := by simpa using h
  rw [bld, bld_pre r _ _ (by simp)]
  rw [List.getElem?_append_right (by omega)]
  simp only [Nat.add_zero, Nat.sub_self, List.getElem?_cons_zero, Option.some.injEq]
  congr 1
  refine List.map_congr_left fun k hk' => ?_
  have := hk k hk'
  unfold getT
  rw [bld_pre r _ _ (by simp; omega), List.getElem?_append_left (by omega)]
 | (ks', u') :: r, ts, i + 1, ks, u, h, hk => by
  have := bld_at r (ts ++ [mkT u' (ks'.map (getT ts))]) i ks u (by simpa using h) (fun k hk' => by have := hk k hk'; simp; omega)
  rw [bld]
  rw [List.length_append, List.length_singleton, show ts.length + 1 + i = ts.length + (i + 1) by omega] at this
  exact this
def pairs : List Int → List (Int × Int)
 | lo :: hi :: r => (lo, hi) :: pairs r
 | _ => []
theorem pairs_len : ∀ s : List Int, (pairs s).length ≤ s.length
 | [] => by simp [pairs]
 | [x] => by simp [pairs]
 | x :: y :: r => by have := pairs_len r; simp [pairs]; omega
theorem inS_any : ∀ (s : List Int) (x : Int), (pairs s).any (fun u => decide (u.1 ≤ x) && decide (x ≤ u.2)) = inS s x
 | [], x => rfl
 | [_], x => rfl
 | lo :: hi :: r, x => by
  unfold pairs inS
  rw [List.any_cons, inS_any r x]
theorem p_spans_l : ∀ (n : Nat) (rest pre : List Int) (out : List (Int × Int)), rest.length ≤ n → pre.length + rest.length ≤ 1000000 → out.length ≤ pre.length → ∀ k, rest.length < k → z1y.l1 (pre ++ rest) k out pre.length = some (out ++ pairs rest) := by
 intro n
 induction n with
 | zero =>
  intro rest pre out hn hb ho k hk
  obtain rfl : rest = [] := List.eq_nil_of_length_eq_zero (by omega)
  obtain ⟨k, rfl⟩ := Nat.exists_eq_succ_of_ne_zero (show k ≠ 0 by omega)
  rw [z1y.l1, wrapN pre.length (by simp at hb; omega), if_neg (by simp; omega)]
  simp [pairs]
 | succ n ih =>
  intro rest pre out hn hb ho k hk
  obtain ⟨k, rfl⟩ := Nat.exists_eq_succ_of_ne_zero (show k ≠ 0 by omega)
  match rest, hn, hb, hk with
  | [], _, hb, _ =>
   rw [z1y.l1, wrapN pre.length (by simp at hb; omega), if_neg (by simp; omega)]
   simp [pairs]
  | [x], _, hb, _ =>
   rw [z1y.l1, wrapN pre.length (by simp at hb; omega), if_neg (by simp)]
   simp [pairs]
  | x :: y :: r, hn, hb, hk =>
   simp only [List.length_cons] at hn hb hk
   have ha : pre ++ x :: y :: r = (pre ++ [x]) ++ y :: r := by simp
   have hl1 : ((pre.length + 1 : Nat) : Int) = ((pre ++ [x]).length : Int) := by simp
   have ry : rd? (pre ++ x :: y :: r) ((pre.length + 1 : Nat) : Int) = some y := by rw [hl1, ha, rd_mid]
   rw [z1y.l1, wrapN pre.length (by omega), if_pos (by rw [decide_eq_true_eq]; simp only [List.length_append, List.length_cons]; omega), rd_mid, ry]
   simp only [Option.bind_some]
   rw [app?_at (by simp; omega)]
   simp only [Option.bind_some]
   have hl2 : IntKind.i64.wrap ((pre.length : Int) + 2) = ((pre ++ [x] ++ [y]).length : Int) := by rw [yp (by omega) (by omega)]; simp only [List.length_append, List.length_singleton]; omega
   have ha2 : pre ++ x :: y :: r = (pre ++ [x] ++ [y]) ++ r := by simp
   rw [hl2, ha2, ih r (pre ++ [x] ++ [y]) (out ++ [(x, y)]) (by omega) (by simp; omega) (by simp; omega) k (by omega)]
   simp [pairs]
theorem p_spansOf (s : List Int) (hs : s.length ≤ 1000000) : z1y.f s = some (pairs s) := by
 unfold z1y.f
 have := p_spans_l s.length s [] [] (Nat.le_refl _) (by simpa using hs) (Nat.le_refl _) (((s.length : Int) - IntKind.i64.wrap (0 + 1)).toNat + 2) (by rw [yp (by omega) (by omega)]; omega)
 rw [List.nil_append, show ((([] : List Int).length : Nat) : Int) = 0 from rfl] at this
 rw [this]
 rfl
theorem p_implIn (s : List Int) (x : Int) (hs : s.length ≤ 1000000) : z22.f s x = some (inS s x) := by
 unfold z22.f
 rw [p_spansOf s hs]
 simp only [Option.bind_some]
 unfold z21.f z20.f
 have hp : (pairs s).length ≤ big := by have := pairs_len s; unfold big; omega
 generalize hq : pairs s = p at *
 have e1 : ∀ u : Int × Int, z1z.f u.1 u.2 x = some (decide (u.1 ≤ x) && decide (x ≤ u.2)) := fun u => by
  unfold z1z.f
  simp only [p_inRange, Option.bind_some]
 have := scan_loop p hp (fun u => decide (u.1 ≤ x) && decide (x ≤ u.2)) (fun i _ => i) (z20.l1 p x) (fun k i => by rw [z20.l1]; simp only [e1, Option.bind_some]) (((p.length : Int) - 0).toNat + 2) 0 (by omega) (by omega)
 rw [show ((0 : Nat) : Int) = 0 from rfl] at this
 rw [this, List.drop_zero]
 have e := inS_any s x
 rw [hq] at e
 rw [← e]
 cases hf : p.findIdx? (fun u => decide (u.1 ≤ x) && decide (x ≤ u.2)) with
 | none =>
  have : p.any (fun u => decide (u.1 ≤ x) && decide (x ≤ u.2)) = false := by
   rw [List.findIdx?_eq_none_iff] at hf
   rw [List.any_eq_false]
   intro u hu
   rw [hf u hu]
   simp
  rw [this]; simp
 | some j =>
  obtain ⟨hj, h1, h2⟩ := List.findIdx?_eq_some_iff_getElem.1 hf
  have : p.any (fun u => decide (u.1 ≤ x) && decide (x ≤ u.2)) = true := List.any_eq_true.2 ⟨_, List.getElem_mem hj, h1⟩
  rw [this]
  simp [hj]
theorem p_specIn_l (x : Int) : ∀ (n : Nat) (rest pre : List Int), rest.length ≤ n → pre.length + rest.length ≤ 1000000 → rest.length % 2 = 0 → ∀ k, rest.length < k → z2l.l1 (pre ++ rest) x k pre.length = some (if inS rest x then .ret true else .go ()) := by
 intro n
 induction n with
 | zero =>
  intro rest pre hn hb he k hk
  obtain rfl : rest = [] := List.eq_nil_of_length_eq_zero (by omega)
  obtain ⟨k, rfl⟩ := Nat.exists_eq_succ_of_ne_zero (show k ≠ 0 by omega)
  rw [z2l.l1, if_neg (by simp)]
  rfl
 | succ n ih =>
  intro rest pre hn hb he k hk
  obtain ⟨k, rfl⟩ := Nat.exists_eq_succ_of_ne_zero (show k ≠ 0 by omega)
  match rest, hn, hb, he, hk with
  | [], _, _, _, _ =>
   rw [z2l.l1, if_neg (by simp)]
   rfl
  | [x], _, _, he, _ => simp at he
  | y :: z :: r, hn, hb, he, hk =>
   simp only [List.length_cons] at hn hb hk he
   have ha : pre ++ y :: z :: r = (pre ++ [y]) ++ z :: r := by simp
   have hl1 : IntKind.i64.wrap ((pre.length : Int) + 1) = ((pre ++ [y]).length : Int) := by rw [yp (by omega) (by omega)]; simp
   have ry : rd? (pre ++ y :: z :: r) (IntKind.i64.wrap ((pre.length : Int) + 1)) = some z := by rw [hl1, ha, rd_mid]
   rw [z2l.l1, if_pos (by rw [decide_eq_true_eq]; simp only [List.length_append, List.length_cons]; omega), rd_mid, ry]
   simp only [Option.bind_some, p_l1In]
   unfold inS
   cases hd : (decide (y ≤ x) && decide (x ≤ z)) with
   | true => rfl
   | false =>
    have hl2 : IntKind.i64.wrap ((pre.length : Int) + 2) = ((pre ++ [y] ++ [z]).length : Int) := by rw [yp (by omega) (by omega)]; simp only [List.length_append, List.length_singleton]; omega
    have ha2 : pre ++ y :: z :: r = (pre ++ [y] ++ [z]) ++ r := by simp
    rw [hl2, ha2, ih r (pre ++ [y] ++ [z]) (by omega) (by simp; omega) (by omega) k (by omega)]
    simp
theorem p_specIn (s : List Int) (x : Int) (hs : s.length ≤ 1000000) (he : s.length % 2 = 0) : z2l.f s x = some (inS s x) := by
 unfold z2l.f
 have := p_specIn_l x s.length s [] (Nat.le_refl _) (by simpa using hs) he (((s.length : Int) - 0).toNat + 2) (by omega)
 rw [List.nil_append, show ((([] : List Int).length : Nat) : Int) = 0 from rfl] at this
 rw [this]
 cases inS s x <;> rfl
/-- Going back over the part that ends at a place. -/
def Scan (p : List Nd) (r s : Int) : Prop := 0 ≤ s ∧ s ≤ r ∧ r < p.length ∧ ∀ (n : Int) (f : Nat), 0 ≤ n → n + (r - s) ≤ 1000000 → z2m.l1 p (f + (r - s + 1).toNat) (n + 1) r = z2m.l1 p f n (s - 1)
/-- A pile, the last part first: each part's last node, and where the part begins. -/
def Pile (p : List Nd) : Int → List Int → Prop
 | e, [] => e = -1
 | e, r :: rs => r = e ∧ ∃ s, Scan p r s ∧ Pile p (s - 1) rs
theorem Scan.leaf {p : List Nd} (hp : p.length ≤ 1000) (i : Nat) (hi : i < p.length) (h : ar p[i].1 = 0) : Scan p i i := by
 refine ⟨by omega, Int.le_refl _, by omega, fun n f h0 h1 => ?_⟩
 rw [show ((i : Int) - i + 1).toNat = 1 by omega, z2m.l1, if_pos (by simp; omega), rd?_at hi]
 simp only [Option.bind_some, p_arity, h]
 rw [yp (n := 0 - 1) (by omega) (by omega), yp (by omega) (by omega), yp (by omega) (by omega)]
 rw [show n + 1 + (0 - 1) = n by omega]
theorem Scan.one {p : List Nd} (hp : p.length ≤ 1000) (i : Nat) (hi : i < p.length) (h : ar p[i].1 = 1) {s : Int} (hs : Scan p ((i : Int) - 1) s) : Scan p i s := by
 obtain ⟨h1, h2, h3, h4⟩ := hs
 refine ⟨h1, by omega, by omega, fun n f h0 h5 => ?_⟩
 rw [show f + ((i : Int) - s + 1).toNat = (f + ((i : Int) - 1 - s + 1).toNat) + 1 by omega, z2m.l1, if_pos (by simp; omega), rd?_at hi]
 simp only [Option.bind_some, p_arity, h]
 rw [yp (n := 1 - 1) (by omega) (by omega), yp (by omega) (by omega), yp (by omega) (by omega)]
 rw [show n + 1 + (1 - 1) = n + 1 by omega]
 exact h4 n f h0 (by omega)
theorem Scan.two {p : List Nd} (hp : p.length ≤ 1000) (i : Nat) (hi : i < p.length) (h : ar p[i].1 = 2) {s s' : Int} (hs : Scan p ((i : Int) - 1) s) (hs' : Scan p (s - 1) s') : Scan p i s' := by
 obtain ⟨h1, h2, h3, h4⟩ := hs
 obtain ⟨g1, g2, g3, g4⟩ := hs'
 refine ⟨g1, by omega, by omega, fun n f h0 h5 => ?_⟩
 rw [show f + ((i : Int) - s' + 1).toNat = ((f + (s - 1 - s' + 1).toNat) + ((i : Int) - 1 - s + 1).toNat) + 1 by omega, z2m.l1, if_pos (by simp; omega), rd?_at hi]
 simp only [Option.bind_some, p_arity, h]
 rw [yp (n := 2 - 1) (by omega) (by omega), yp (by omega) (by omega), yp (by omega) (by omega)]
 rw [show n + 1 + (2 - 1) = (n + 1) + 1 by omega, h4 (n + 1) _ (by omega) (by omega)]
 exact g4 n f h0 (by omega)
theorem first_of {p : List Nd} (hp : p.length ≤ 1000) (i : Nat) (hi : i < p.length) {s : Int} (hs : Scan p ((i : Int) - 1) s) : z2m.f p i = some (s - 1) := by
 obtain ⟨h1, h2, h3, h4⟩ := hs
 unfold z2m.f
 rw [yp (by omega) (by omega)]
 have := h4 0 (p.length + 2 - ((i : Int) - 1 - s + 1).toNat) (by omega) (by omega)
 rw [show p.length + 2 - ((i : Int) - 1 - s + 1).toNat + ((i : Int) - 1 - s + 1).toNat = p.length + 2 by omega, show (0 : Int) + 1 = 1 from rfl] at this
 rw [this]
 obtain ⟨f, hf⟩ := Nat.exists_eq_succ_of_ne_zero (show p.length + 2 - ((i : Int) - 1 - s + 1).toNat ≠ 0 by omega)
 rw [hf, z2m.l1, if_neg (by decide)]
 rfl
def KidOk (p : List Nd) (ks : List Int) (k : Nat) (u : Nd) : Prop := (ar u.1 = 0 → ks = []) ∧ (ar u.1 = 1 → ks = [(k : Int) - 1] ∧ 1 ≤ k) ∧ (ar u.1 = 2 → ∃ f : Int, ks = [f, (k : Int) - 1] ∧ 0 ≤ f ∧ f + 1 < k ∧ z2m.f p k = some f) ∧ 0 ≤ ar u.1
def Kids (p : List Nd) (K : List (List Int)) (n : Nat) : Prop := K.length = n ∧ ∀ (k : Nat) (hk : k < n) (hp : k < p.length), ∃ ks, K[k]? = some ks ∧ KidOk p ks k p[k]
theorem drop_last {α : Type} (l : List α) (a : α) : (l ++ [a]).drop ((l ++ [a]).length - 1) = [a] := by
 rw [List.length_append, List.length_singleton, Nat.add_sub_cancel, List.drop_left]
theorem kids_of (p : List Nd) (hp : p.length ≤ 1000) : ∀ (rest pre : List Nd) (pile : List Int) (out K : List (List Int)) (q : List Int), p = pre ++ rest → Pile p ((pre.length : Int) - 1) pile.reverse → Kids p out pre.length → pileR rest pre.length pile out = some (K, q) → Kids p K p.length ∧ Pile p ((p.length : Int) - 1) q.reverse := by
 intro rest
 induction rest with
 | nil =>
  intro pre pile out K q hpe hP hK h
  rw [List.append_nil] at hpe
  subst hpe
  unfold pileR at h
  injection h with h
  injection h with h1 h2
  subst h1 h2
  exact ⟨hK, hP⟩
 | cons u us ih =>
  intro pre pile out K q hpe hP hK h
  unfold pileR at h
  split at h
  ·cases h
  rename_i hn
  have hi : pre.length < p.length := by rw [hpe]; simp
  have hu : p[pre.length] = u := by subst hpe; simp
  have hbd := ar_bd u.1
  have hl : pre.length = out.length := hK.1.symm
  -- the step, told for what is taken off
  have step : ∀ (pile' ks : List Int), pile.take (pile.length - (ar u.1).toNat) = pile' → pile.drop (pile.length - (ar u.1).toNat) = ks → KidOk p ks pre.length u → (∃ s, Scan p pre.length s ∧ Pile p (s - 1) pile'.reverse) → Kids p K p.length ∧ Pile p ((p.length : Int) - 1) q.reverse := by
   intro pile' ks e1 e2 hk ⟨s, hs, hP'⟩
   rw [e1, e2] at h
   refine ih (pre ++ [u]) (pile' ++ [(pre.length : Int)]) (out ++ [ks]) K q (by rw [hpe]; simp) ?_ ⟨by simp [hK.1], fun k hk1 hk2 => ?_⟩ ?_
   ·rw [List.reverse_append]
    exact ⟨by simp, s, hs, hP'⟩
   ·simp only [List.length_append, List.length_singleton] at hk1
    by_cases hkp : k < pre.length
    ·obtain ⟨ks', g1, g2⟩ := hK.2 k hkp hk2
     exact ⟨ks', by rw [List.getElem?_append_left (by omega)]; exact g1, g2⟩
    ·obtain rfl : k = pre.length := by omega
     refine ⟨ks, by rw [hl, List.getElem?_append_right (Nat.le_refl _)]; simp, ?_⟩
     rw [hu]; exact hk
   ·rw [List.length_append, List.length_singleton]
    exact h
  have hcase : ar u.1 = 0 ∨ ar u.1 = 1 ∨ ar u.1 = 2 := by omega
  rcases hcase with ha | ha | ha
  ·refine step pile [] (by rw [ha]; simp) (by rw [ha]; simp) ⟨fun _ => rfl, fun h => by omega, fun h => by omega, by omega⟩ ⟨pre.length, Scan.leaf hp _ hi (by rw [hu]; exact ha), hP⟩
  ·rcases List.eq_nil_or_concat pile with rfl | ⟨pl, r, rfl⟩
   ·simp at hn; omega
   rw [List.concat_eq_append] at *
   rw [List.reverse_append] at hP
   obtain ⟨hr, s, hs, hP'⟩ := hP
   have hr : r = (pre.length : Int) - 1 := hr
   subst hr
   have h1 : 1 ≤ pre.length := by have := hs.1; have := hs.2.1; omega
   refine step pl [(pre.length : Int) - 1] (by rw [ha]; simp) (by rw [ha]; exact drop_last pl _) ⟨fun h => by omega, fun _ => ⟨rfl, h1⟩, fun h => by omega, by omega⟩ ⟨s, Scan.one hp _ hi (by rw [hu]; exact ha) hs, hP'⟩
  ·rcases List.eq_nil_or_concat pile with rfl | ⟨pl, r, rfl⟩
   ·simp at hn; omega
   rw [List.concat_eq_append] at *
   rcases List.eq_nil_or_concat pl with rfl | ⟨pl, r2, rfl⟩
   ·simp at hn; omega
   rw [List.concat_eq_append] at *
   rw [List.reverse_append, List.reverse_append] at hP
   obtain ⟨hr, s, hs, hr2, s2, hs2, hP'⟩ := hP
   have hr : r = (pre.length : Int) - 1 := hr
   have hr2 : r2 = s - 1 := hr2
   subst hr hr2
   have b1 := hs.1
   have b2 := hs.2.1
   have b3 := hs2.1
   have b4 := hs2.2.1
   refine step pl [s - 1, (pre.length : Int) - 1] (by rw [ha]; simp) (by rw [ha]; simp) ⟨fun h => by omega, fun h => by omega, fun _ => ⟨s - 1, rfl, by omega, by omega, first_of hp _ hi hs⟩, by omega⟩ ⟨s2, Scan.two hp _ hi (by rw [hu]; exact ha) hs hs2, hP'⟩
theorem rd?_get' {α : Type} {xs : List α} {i : Nat} {x : α} (h : xs[i]? = some x) : rd? xs (i : Int) = some x := by
 obtain ⟨h1, h2⟩ := List.getElem?_eq_some_iff.1 h
 rw [rd?_at h1, h2]
/-- The trees of a pattern. -/
def trs (p : List Nd) (K : List (List Int)) : List RT := bld (K.zip p) []
theorem trs_at {p : List Nd} {K : List (List Int)} (hK : Kids p K p.length) {k : Nat} (hk : k < p.length) {ks : List Int} (h : K[k]? = some ks) (hks : ∀ c ∈ ks, 0 ≤ c ∧ c < k) : getT (trs p K) (k : Int) = mkT p[k] (ks.map (getT (trs p K))) := by
 have hz : (K.zip p)[k]? = some (ks, p[k]) := by
  rw [List.getElem?_zip_eq_some]
  exact ⟨h, List.getElem?_eq_getElem hk⟩
 have := bld_at (K.zip p) [] k ks p[k] hz (fun c hc => by have := hks c hc; simp; omega)
 simp only [List.length_nil, Nat.zero_add] at this
 unfold getT
 rw [Int.toNat_natCast]
 show ((bld (K.zip p) [])[k]?).getD .nil = _
 rw [this]
 rfl
theorem ar_cases {k : Int} (h : 0 ≤ ar k) : k = 1 ∨ k = 2 ∨ k = 3 ∨ k = 4 ∨ k = 5 ∨ k = 6 ∨ k = 7 := by
 unfold ar at h
 split at h
 ·omega
 ·split at h
  ·omega
  ·split at h
   ·omega
   ·omega
/-- A node's rows: for the places behind (i, j) they hold what they should. -/
def RowsV (l : List Int) (T : RT) (i j : Nat) (rows : List (List Bool)) : Prop := rows.length = l.length + 1 ∧ ∀ f, f ≤ l.length → ∃ row, rows[f]? = some row ∧ row.length = l.length + 1 ∧ ∀ t, f ≤ t → t ≤ l.length → (i < f ∨ f = i ∧ t < j) → row[t]? = some (acc T (seg l f t))
def RowsA (l : List Int) (T : RT) (rows : List (List Bool)) : Prop := rows.length = l.length + 1 ∧ ∀ f, f ≤ l.length → ∃ row, rows[f]? = some row ∧ row.length = l.length + 1 ∧ ∀ t, f ≤ t → t ≤ l.length → row[t]? = some (acc T (seg l f t))
theorem p_has {p : List Nd} {K : List (List Int)} {l : List Int} {tb : List (List (List Bool))} {T : RT} {c : Nat} {rows : List (List Bool)} (h : tb[c]? = some rows) {f t : Nat} {row : List Bool} {b : Bool} (h2 : rows[f]? = some row) (h3 : row[t]? = some b) : z23.f p K l tb (c : Int) (f : Int) (t : Int) = some b := by
 unfold z23.f
 rw [rd?_get' h]
 simp only [Option.bind_some]
 rw [rd?_get' h2]
 simp only [Option.bind_some]
 rw [rd?_get' h3]
 rfl
theorem RowsA.has {p : List Nd} {K : List (List Int)} {l : List Int} {tb : List (List (List Bool))} {T : RT} {c : Nat} {rows : List (List Bool)} (h : tb[c]? = some rows) (hr : RowsA l T rows) {f t : Nat} (hf : f ≤ t) (ht : t ≤ l.length) : z23.f p K l tb (c : Int) (f : Int) (t : Int) = some (acc T (seg l f t)) := by
 obtain ⟨row, h2, _, h3⟩ := hr.2 f (by omega)
 exact p_has (T := T) h h2 (h3 t hf ht)
theorem RowsV.has {p : List Nd} {K : List (List Int)} {l : List Int} {tb : List (List (List Bool))} {T : RT} {c : Nat} {rows : List (List Bool)} {i j : Nat} (h : tb[c]? = some rows) (hr : RowsV l T i j rows) {f t : Nat} (hf : f ≤ t) (ht : t ≤ l.length) (hij : i < f ∨ f = i ∧ t < j) : z23.f p K l tb (c : Int) (f : Int) (t : Int) = some (acc T (seg l f t)) := by
 obtain ⟨row, h2, _, h3⟩ := hr.2 f (by omega)
 exact p_has (T := T) h h2 (h3 t hf ht hij)
/-- The table holds the nodes ahead of one. -/
def TbV (l : List Int) (ts : List RT) (n : Nat) (tb : List (List (List Bool))) : Prop := ∀ c, c < n → ∃ rows, tb[c]? = some rows ∧ RowsA l (getT ts (c : Int)) rows
theorem p_lookCat {p : List Nd} {K : List (List Int)} {l : List Int} {tb : List (List (List Bool))} {ks : List Int} {a b f t : Nat} {A B : RT} (hl : l.length ≤ 1000) (ha : rd? ks 0 = some (a : Int)) (hb : rd? ks 1 = some (b : Int)) {ra rb : List (List Bool)} (ha1 : tb[a]? = some ra) (ha2 : RowsA l A ra) (hb1 : tb[b]? = some rb) (hb2 : RowsA l B rb) (hf : f ≤ t) (ht : t ≤ l.length) : ∀ (n i k : Nat), i + n = t - f + 1 → n < k →
  z24.l2 p K l tb f t ks k ((f + i : Nat) : Int) = some (if (List.range' i n).any (fun i => acc A (seg l f (f + i)) && acc B (seg l (f + i) t)) then .ret true else .go ()) := by
 intro n
 induction n with
 | zero =>
  intro i k hi hk
  obtain ⟨k, rfl⟩ := Nat.exists_eq_succ_of_ne_zero (show k ≠ 0 by omega)
  rw [z24.l2, if_neg (by simp; omega)]
  rfl
 | succ n ih =>
  intro i k hi hk
  obtain ⟨k, rfl⟩ := Nat.exists_eq_succ_of_ne_zero (show k ≠ 0 by omega)
  rw [z24.l2, if_pos (by simp; omega), ha, hb]
  simp only [Option.bind_some]
  rw [ha2.has ha1 (by omega) (by omega), hb2.has hb1 (by omega) ht]
  simp only [Option.bind_some]
  rw [List.range'_succ, List.any_cons]
  have e : (if acc A (seg l f (f + i)) = true then some (acc B (seg l (f + i) t)) else some false) = some (acc A (seg l f (f + i)) && acc B (seg l (f + i) t)) := by cases acc A (seg l f (f + i)) <;> rfl
  rw [e]
  simp only [Option.bind_some]
  cases acc A (seg l f (f + i)) && acc B (seg l (f + i) t) with
  | true => simp
  | false =>
   simp only [Bool.false_eq_true, if_false, Bool.false_or]
   rw [yp (by omega) (by omega), show (((f + i : Nat)) : Int) + 1 = ((f + (i + 1) : Nat) : Int) by omega]
   exact ih (i + 1) k (by omega) (by omega)
theorem p_lookStar {p : List Nd} {K : List (List Int)} {l : List Int} {tb : List (List (List Bool))} {ks : List Int} {a c f t : Nat} {A S : RT} (hl : l.length ≤ 1000) (ha : rd? ks 0 = some (a : Int)) {ra rc : List (List Bool)} (ha1 : tb[a]? = some ra) (ha2 : RowsA l A ra) (hc1 : tb[c]? = some rc) (hc2 : RowsV l S f t rc) (hf : f ≤ t) (ht : t ≤ l.length) : ∀ (n i k : Nat), i + n = t - f → n < k →
  z24.l1 p K l tb c f t ks k ((f + 1 + i : Nat) : Int) = some (if (List.range' i n).any (fun i => acc A (seg l f (f + 1 + i)) && acc S (seg l (f + 1 + i) t)) then .ret (.ret true) else .go ()) := by
 intro n
 induction n with
 | zero =>
  intro i k hi hk
  obtain ⟨k, rfl⟩ := Nat.exists_eq_succ_of_ne_zero (show k ≠ 0 by omega)
  rw [z24.l1, if_neg (by simp; omega)]
  rfl
 | succ n ih =>
  intro i k hi hk
  obtain ⟨k, rfl⟩ := Nat.exists_eq_succ_of_ne_zero (show k ≠ 0 by omega)
  rw [z24.l1, if_pos (by simp; omega), ha]
  simp only [Option.bind_some]
  rw [ha2.has ha1 (by omega) (by omega), hc2.has hc1 (by omega) ht (.inl (by omega))]
  simp only [Option.bind_some]
  rw [List.range'_succ, List.any_cons]
  have e : (if acc A (seg l f (f + 1 + i)) = true then some (acc S (seg l (f + 1 + i) t)) else some false) = some (acc A (seg l f (f + 1 + i)) && acc S (seg l (f + 1 + i) t)) := by cases acc A (seg l f (f + 1 + i)) <;> rfl
  rw [e]
  simp only [Option.bind_some]
  cases acc A (seg l f (f + 1 + i)) && acc S (seg l (f + 1 + i) t) with
  | true => simp
  | false =>
   simp only [Bool.false_eq_true, if_false, Bool.false_or]
   rw [yp (by omega) (by omega), show (((f + 1 + i : Nat)) : Int) + 1 = ((f + 1 + (i + 1) : Nat) : Int) by omega]
   exact ih (i + 1) k (by omega) (by omega)
theorem p_look {p : List Nd} {K : List (List Int)} {l : List Int} {tb : List (List (List Bool))} (hp : p.length ≤ 1000) (hset : ∀ u ∈ p, u.2.length ≤ 1000) (hl : l.length ≤ 1000) (hK : Kids p K p.length) {k : Nat} (hk : k < p.length) (htb : TbV l (trs p K) k tb) {rows : List (List Bool)} (hrow : tb[k]? = some rows) {f t : Nat} (hV : RowsV l (getT (trs p K) (k : Int)) f t rows) (hf : f ≤ t) (ht : t ≤ l.length) :
  z24.f p K l tb (k : Int) (f : Int) (t : Int) = some (acc (getT (trs p K) (k : Int)) (seg l f t)) := by
 obtain ⟨ks, hks, hko⟩ := hK.2 k hk hk
 obtain ⟨k0, k1, k2, k3⟩ := hko
 unfold z24.f
 rw [rd?_get' hks, rd?_at hk]
 simp only [Option.bind_some]
 have hsk := hset _ (List.getElem_mem hk)
 rcases ar_cases k3 with h | h | h | h | h | h | h
 ·-- nil
  have ht' := trs_at hK hk hks (by rw [k0 (by rw [h]; rfl)]; simp)
  rw [ht']
  simp only [h, mkT, if_true, beq_self_eq_true, Option.bind_some]
  rw [acc_nil_seg l f t hf ht]
  congr 1
  rw [Bool.eq_iff_iff]
  simp
  omega
 ·-- set
  have ht' := trs_at hK hk hks (by rw [k0 (by rw [h]; rfl)]; simp)
  rw [ht']
  have hm : mkT p[k] (ks.map (getT (trs p K))) = .set p[k].2 := by unfold mkT; rw [if_neg (by omega), if_pos h]
  rw [hm, acc_set_seg _ l f t hf ht]
  simp only [h]
  have c1 : ((2 : Int) == 1) = false := by decide
  have c2 : ((2 : Int) == 2) = true := by decide
  simp only [c1, c2, Bool.false_eq_true, if_false, if_true]
  rw [wrapN f (by omega)]
  by_cases hft : t = f + 1
  ·subst hft
   rw [if_pos (by simp), rd?_at (show f < l.length by omega)]
   simp only [Option.bind_some]
   rw [p_implIn _ _ (by omega)]
   simp
  ·rw [if_neg (by simp; omega), dif_neg hft]
   rfl
 ·-- cat
  obtain ⟨g, e1, g0, g1, _⟩ := k2 (by rw [h]; rfl)
  obtain ⟨g, rfl⟩ := Int.eq_ofNat_of_zero_le g0
  have e2 : ((k : Int) - 1) = ((k - 1 : Nat) : Int) := by omega
  rw [e2] at e1
  have ht' := trs_at hK hk hks (by rw [e1]; intro c hc; simp at hc; omega)
  obtain ⟨ra, ha1, ha2⟩ := htb g (by omega)
  obtain ⟨rb, hb1, hb2⟩ := htb (k - 1) (by omega)
  have hm : mkT p[k] (ks.map (getT (trs p K))) = .cat (getT (trs p K) (g : Int)) (getT (trs p K) ((k - 1 : Nat) : Int)) := by rw [e1]; unfold mkT; simp [h]
  rw [ht', hm, acc_cat_seg _ _ l f t hf ht]
  have hl2 := p_lookCat (p := p) (K := K) (ks := ks) hl (by rw [e1]; rfl) (by rw [e1]; rfl) ha1 ha2 hb1 hb2 hf ht (t - f + 1) 0 (((t : Int) - (f : Int)).toNat + 2) (by omega) (by omega)
  simp only [Nat.add_zero] at hl2
  simp only [h]
  have c1 : ((3 : Int) == 1) = false := by decide
  have c2 : ((3 : Int) == 2) = false := by decide
  have c4 : ((3 : Int) == 4) = false := by decide
  have c5 : ((3 : Int) == 5) = false := by decide
  have c7 : ((3 : Int) == 7) = false := by decide
  have c6 : ((3 : Int) == 6) = false := by decide
  simp only [c1, c2, c4, c5, c6, c7, Bool.false_eq_true, if_false, Option.bind_some]
  rw [hl2, List.range_eq_range']
  simp only [Option.bind_some]
  cases (List.range' 0 (t - f + 1)).any fun i => acc (getT (trs p K) (g : Int)) (seg l f (f + i)) && acc (getT (trs p K) ((k - 1 : Nat) : Int)) (seg l (f + i) t) <;> rfl
 ·-- or
  obtain ⟨g, e1, g0, g1, _⟩ := k2 (by rw [h]; rfl)
  obtain ⟨g, rfl⟩ := Int.eq_ofNat_of_zero_le g0
  have e2 : ((k : Int) - 1) = ((k - 1 : Nat) : Int) := by omega
  rw [e2] at e1
  have ht' := trs_at hK hk hks (by rw [e1]; intro c hc; simp at hc; omega)
  obtain ⟨ra, ha1, ha2⟩ := htb g (by omega)
  obtain ⟨rb, hb1, hb2⟩ := htb (k - 1) (by omega)
  have hm : mkT p[k] (ks.map (getT (trs p K))) = .or (getT (trs p K) (g : Int)) (getT (trs p K) ((k - 1 : Nat) : Int)) := by rw [e1]; unfold mkT; simp [h]
  have r0 : rd? ks 0 = some (g : Int) := by rw [e1]; rfl
  have r1 : rd? ks 1 = some ((k - 1 : Nat) : Int) := by rw [e1]; rfl
  rw [ht', hm]
  simp only [h]
  have c1 : ((4 : Int) == 1) = false := by decide
  have c2 : ((4 : Int) == 2) = false := by decide
  have c4 : ((4 : Int) == 4) = true := by decide
  simp only [c1, c2, c4, Bool.false_eq_true, if_false, if_true, r0, r1, Option.bind_some, ha2.has ha1 hf ht, hb2.has hb1 hf ht]
  show _ = some (acc _ _ || acc _ _)
  cases acc (getT (trs p K) (g : Int)) (seg l f t) <;> rfl
 ·-- and
  obtain ⟨g, e1, g0, g1, _⟩ := k2 (by rw [h]; rfl)
  obtain ⟨g, rfl⟩ := Int.eq_ofNat_of_zero_le g0
  have e2 : ((k : Int) - 1) = ((k - 1 : Nat) : Int) := by omega
  rw [e2] at e1
  have ht' := trs_at hK hk hks (by rw [e1]; intro c hc; simp at hc; omega)
  obtain ⟨ra, ha1, ha2⟩ := htb g (by omega)
  obtain ⟨rb, hb1, hb2⟩ := htb (k - 1) (by omega)
  have hm : mkT p[k] (ks.map (getT (trs p K))) = .and (getT (trs p K) (g : Int)) (getT (trs p K) ((k - 1 : Nat) : Int)) := by rw [e1]; unfold mkT; simp [h]
  have r0 : rd? ks 0 = some (g : Int) := by rw [e1]; rfl
  have r1 : rd? ks 1 = some ((k - 1 : Nat) : Int) := by rw [e1]; rfl
  rw [ht', hm]
  simp only [h]
  have c1 : ((5 : Int) == 1) = false := by decide
  have c2 : ((5 : Int) == 2) = false := by decide
  have c4 : ((5 : Int) == 4) = false := by decide
  have c5 : ((5 : Int) == 5) = true := by decide
  simp only [c1, c2, c4, c5, Bool.false_eq_true, if_false, if_true, r0, r1, Option.bind_some, ha2.has ha1 hf ht, hb2.has hb1 hf ht]
  show _ = some (acc _ _ && acc _ _)
  cases acc (getT (trs p K) (g : Int)) (seg l f t) <;> rfl
 ·-- star
  obtain ⟨e1, g1⟩ := k1 (by rw [h]; rfl)
  have e2 : ((k : Int) - 1) = ((k - 1 : Nat) : Int) := by omega
  rw [e2] at e1
  have ht' := trs_at hK hk hks (by rw [e1]; intro c hc; simp at hc; omega)
  obtain ⟨ra, ha1, ha2⟩ := htb (k - 1) (by omega)
  have hm : mkT p[k] (ks.map (getT (trs p K))) = .star (getT (trs p K) ((k - 1 : Nat) : Int)) := by rw [e1]; unfold mkT; simp [h]
  rw [hm] at ht'
  rw [ht'] at hV ⊢
  rw [acc_star_seg _ l f t hf ht]
  have hl2 := p_lookStar (p := p) (K := K) (ks := ks) hl (by rw [e1]; rfl) ha1 ha2 hrow hV hf ht (t - f) 0 (((t : Int) - (((f + 1 : Nat)) : Int)).toNat + 2) (by omega) (by omega)
  simp only [Nat.add_zero] at hl2
  simp only [h]
  have c1 : ((6 : Int) == 1) = false := by decide
  have c2 : ((6 : Int) == 2) = false := by decide
  have c4 : ((6 : Int) == 4) = false := by decide
  have c5 : ((6 : Int) == 5) = false := by decide
  have c7 : ((6 : Int) == 7) = false := by decide
  have c6 : ((6 : Int) == 6) = true := by decide
  simp only [c1, c2, c4, c5, c6, c7, Bool.false_eq_true, if_false, if_true]
  by_cases hft : f = t
  ·subst hft
   rw [if_pos (by simp)]
   simp
  ·rw [if_neg (by simp; omega), wrapN f (by omega), hl2, List.range_eq_range']
   have : decide (f = t) = false := by simpa using hft
   rw [this, Bool.false_or]
   simp only [Option.bind_some]
   cases (List.range' 0 (t - f)).any fun i => acc (getT (trs p K) ((k - 1 : Nat) : Int)) (seg l f (f + 1 + i)) && acc (.star (getT (trs p K) ((k - 1 : Nat) : Int))) (seg l (f + 1 + i) t) <;> rfl
 ·-- not
  obtain ⟨e1, g1⟩ := k1 (by rw [h]; rfl)
  have e2 : ((k : Int) - 1) = ((k - 1 : Nat) : Int) := by omega
  rw [e2] at e1
  have ht' := trs_at hK hk hks (by rw [e1]; intro c hc; simp at hc; omega)
  obtain ⟨ra, ha1, ha2⟩ := htb (k - 1) (by omega)
  have hm : mkT p[k] (ks.map (getT (trs p K))) = .not (getT (trs p K) ((k - 1 : Nat) : Int)) := by rw [e1]; unfold mkT; simp [h]
  have r0 : rd? ks 0 = some ((k - 1 : Nat) : Int) := by rw [e1]; rfl
  rw [ht', hm]
  simp only [h]
  have c1 : ((7 : Int) == 1) = false := by decide
  have c2 : ((7 : Int) == 2) = false := by decide
  have c4 : ((7 : Int) == 4) = false := by decide
  have c5 : ((7 : Int) == 5) = false := by decide
  have c7 : ((7 : Int) == 7) = true := by decide
  simp only [c1, c2, c4, c5, c7, Bool.false_eq_true, if_false, if_true, r0, Option.bind_some, ha2.has ha1 hf ht]
  rfl
theorem RowsV.last {l : List Int} {T : RT} {f : Nat} {rows : List (List Bool)} (h : RowsV l T f (l.length + 1) rows) : ∀ g, g + 1 = f → RowsV l T g g rows := fun g hg =>
 ⟨h.1, fun r hr => by
  obtain ⟨row, h1, h2, h3⟩ := h.2 r hr
  exact ⟨row, h1, h2, fun t ht htl ho => h3 t ht htl (by omega)⟩⟩
theorem RowsV.all {l : List Int} {T : RT} {rows : List (List Bool)} (h : RowsV l T 0 (l.length + 1) rows) : RowsA l T rows :=
 ⟨h.1, fun r hr => by
  obtain ⟨row, h1, h2, h3⟩ := h.2 r hr
  exact ⟨row, h1, h2, fun t ht htl => h3 t ht htl (by omega)⟩⟩
theorem TbV.app {l : List Int} {ts : List RT} {tb : List (List (List Bool))} (h : TbV l ts tb.length tb) (r : List (List Bool)) : TbV l ts tb.length (tb ++ [r]) := fun c hc => by
 obtain ⟨rows, h1, h2⟩ := h c hc
 exact ⟨rows, by rw [List.getElem?_append_left hc]; exact h1, h2⟩
theorem p_fillRows (l : List Int) (hl : l.length ≤ 1000) (X : List (List Bool)) (hX : X.length ≤ 2000) : ∀ (m i k : Nat), i + m = X.length → m < k → z25.l2 l X k (List.replicate i (List.replicate (l.length + 1) false) ++ List.replicate m []) (i : Int) = some (List.replicate (i + m) (List.replicate (l.length + 1) false)) := by
 intro m
 induction m with
 | zero =>
  intro i k hi hk
  obtain ⟨k, rfl⟩ := Nat.exists_eq_succ_of_ne_zero (show k ≠ 0 by omega)
  rw [z25.l2, if_neg (by simp; omega)]
  simp
 | succ m ih =>
  intro i k hi hk
  obtain ⟨k, rfl⟩ := Nat.exists_eq_succ_of_ne_zero (show k ≠ 0 by omega)
  have r1 := rd_mid (List.replicate i (List.replicate (l.length + 1) false)) ([] : List Bool) (List.replicate m [])
  have r2 := st_mid (List.replicate i (List.replicate (l.length + 1) false)) ([] : List Bool) (List.replicate (l.length + 1) false) (List.replicate m [])
  rw [List.length_replicate] at r1 r2
  rw [z25.l2, if_pos (by simp; omega), wrapN l.length (by omega), mk?_at (by omega), List.replicate_succ (n := m), r1]
  simp only [Option.bind_some]
  rw [r2]
  simp only [Option.bind_some]
  rw [wrapN i (by omega)]
  have := ih (i + 1) k (by omega) (by omega)
  rw [List.replicate_succ' (n := i), List.append_assoc] at this
  rw [show List.replicate m ([] : List Bool) = List.replicate m [] from rfl, show i + (m + 1) = i + 1 + m by omega]
  exact this
theorem p_l4 {p : List Nd} {K : List (List Int)} {bo : Bool} {l : List Int} {tb : List (List (List Bool))} {r0 : List (List Bool)} (hp : p.length ≤ 1000) (hset : ∀ u ∈ p, u.2.length ≤ 1000) (hl : l.length ≤ 1000) (hK : Kids p K p.length) (hk : tb.length < p.length) (htb : TbV l (trs p K) tb.length tb) {f : Nat} (hf : f ≤ l.length) : ∀ (m t k : Nat) (rows : List (List Bool)), f ≤ t → t + m = l.length + 1 → m < k → RowsV l (getT (trs p K) (tb.length : Int)) f t rows → ∃ rows', z25.l4 p l (K, bo) (tb.length : Int) tb (tb ++ [r0]) (f : Int) k rows (t : Int) = some rows' ∧ RowsV l (getT (trs p K) (tb.length : Int)) f (l.length + 1) rows' := by
 intro m
 induction m with
 | zero =>
  intro t k rows h1 h2 hk2 hV
  obtain ⟨k, rfl⟩ := Nat.exists_eq_succ_of_ne_zero (show k ≠ 0 by omega)
  rw [z25.l4, if_neg (by simp; omega)]
  obtain rfl : t = l.length + 1 := by omega
  exact ⟨rows, rfl, hV⟩
 | succ m ih =>
  intro t k rows h1 h2 hk2 hV
  obtain ⟨k, rfl⟩ := Nat.exists_eq_succ_of_ne_zero (show k ≠ 0 by omega)
  obtain ⟨row, e1, e2, e3⟩ := hV.2 f hf
  have hrl : f < rows.length := by rw [hV.1]; omega
  have q1 := st_mid tb r0 rows []
  have q2 := p_look hp hset hl hK hk (htb.app rows) (rows := rows) (by rw [List.getElem?_append_right (Nat.le_refl _)]; simp) hV h1 (show t ≤ l.length by omega)
  rw [z25.l4, if_pos (by simp; omega), rd?_get' e1]
  simp only [Option.bind_some]
  rw [q1]
  simp only [Option.bind_some]
  rw [q2]
  simp only [Option.bind_some]
  rw [rd?_at (show t < row.length by omega)]
  simp only [Option.bind_some]
  rw [st?_at _ (show t < row.length by omega)]
  simp only [Option.bind_some]
  rw [st?_at _ hrl]
  simp only [Option.bind_some]
  rw [wrapN t (by omega)]
  refine ih (t + 1) k _ (by omega) (by omega) (by omega) ⟨by simpa using hV.1, fun r hr => ?_⟩
  by_cases hfr : f = r
  ·subst hfr
   refine ⟨_, List.getElem?_set_self hrl, by simpa using e2, fun t' g1 g2 g3 => ?_⟩
   by_cases htt : t = t'
   ·subst htt
    rw [List.getElem?_set_self (by omega)]
   ·rw [List.getElem?_set_ne htt]
    exact e3 t' g1 g2 (by omega)
  ·obtain ⟨row', b1, b2, b3⟩ := hV.2 r hr
   exact ⟨row', by rw [List.getElem?_set_ne hfr]; exact b1, b2, fun t' g1 g2 g3 => b3 t' g1 g2 (by omega)⟩
theorem p_l3 {p : List Nd} {K : List (List Int)} {bo : Bool} {l : List Int} {tb : List (List (List Bool))} {r0 : List (List Bool)} (hp : p.length ≤ 1000) (hset : ∀ u ∈ p, u.2.length ≤ 1000) (hl : l.length ≤ 1000) (hK : Kids p K p.length) (hk : tb.length < p.length) (htb : TbV l (trs p K) tb.length tb) : ∀ (q k : Nat) (rows : List (List Bool)), q ≤ l.length + 1 → q < k → RowsV l (getT (trs p K) (tb.length : Int)) q (l.length + 1) rows → ∃ rows', z25.l3 p l (K, bo) (tb.length : Int) tb (tb ++ [r0]) k rows ((q : Int) - 1) = some (tb ++ [rows']) ∧ RowsA l (getT (trs p K) (tb.length : Int)) rows' := by
 intro q
 induction q with
 | zero =>
  intro k rows h1 hk2 hV
  obtain ⟨k, rfl⟩ := Nat.exists_eq_succ_of_ne_zero (show k ≠ 0 by omega)
  rw [z25.l3, if_neg (by decide), st_mid tb r0 rows []]
  exact ⟨rows, rfl, hV.all⟩
 | succ q ih =>
  intro k rows h1 hk2 hV
  obtain ⟨k, rfl⟩ := Nat.exists_eq_succ_of_ne_zero (show k ≠ 0 by omega)
  rw [show ((q + 1 : Nat) : Int) - 1 = (q : Int) by omega, z25.l3, if_pos (by simp)]
  obtain ⟨rows', e1, e2⟩ := p_l4 (bo := bo) (r0 := r0) hp hset hl hK hk htb (f := q) (by omega) (l.length + 1 - q) q (((l.length : Int) - (q : Int)).toNat + 2) rows (Nat.le_refl _) (by omega) (by omega) (hV.last q rfl)
  rw [e1]
  simp only [Option.bind_some]
  rw [yp (by omega) (by omega)]
  exact ih k rows' (by omega) (by omega) e2
theorem p_l1 {p : List Nd} {K : List (List Int)} {bo : Bool} {l : List Int} (hp : p.length ≤ 1000) (hset : ∀ u ∈ p, u.2.length ≤ 1000) (hl : l.length ≤ 1000) (hK : Kids p K p.length) : ∀ (m k : Nat) (tb : List (List (List Bool))), tb.length + m = p.length → m < k → TbV l (trs p K) tb.length tb → ∃ tb', z25.l1 p l (K, bo) k (tb.length : Int) tb = some tb' ∧ tb'.length = p.length ∧ TbV l (trs p K) p.length tb' := by
 intro m
 induction m with
 | zero =>
  intro k tb h1 hk htb
  obtain ⟨k, rfl⟩ := Nat.exists_eq_succ_of_ne_zero (show k ≠ 0 by omega)
  rw [z25.l1, if_neg (by simp; omega)]
  exact ⟨tb, rfl, by omega, by rw [← show tb.length = p.length by omega]; exact htb⟩
 | succ m ih =>
  intro k tb h1 hk htb
  obtain ⟨k, rfl⟩ := Nat.exists_eq_succ_of_ne_zero (show k ≠ 0 by omega)
  rw [z25.l1, if_pos (by simp; omega), wrapN l.length (by omega), mk?_at (by omega)]
  simp only [Option.bind_some]
  have f1 := p_fillRows l hl (List.replicate (l.length + 1) []) (by simp; omega) (l.length + 1) 0 ((((List.replicate (l.length + 1) ([] : List Bool)).length : Int) - 0).toNat + 2) (by simp) (by simp)
  rw [List.replicate_zero, List.nil_append, show ((0 : Nat) : Int) = 0 from rfl, Nat.zero_add] at f1
  rw [f1]
  simp only [Option.bind_some]
  rw [app?_at (by simp; omega)]
  simp only [Option.bind_some]
  obtain ⟨rows', e1, e2⟩ := p_l3 (bo := bo) (r0 := List.replicate (l.length + 1) (List.replicate (l.length + 1) false)) hp hset hl hK (show tb.length < p.length by omega) htb (l.length + 1) (((l.length : Int) - 0).toNat + 2) (List.replicate (l.length + 1) (List.replicate (l.length + 1) false)) (Nat.le_refl _) (by omega) ⟨by simp, fun r hr => ⟨List.replicate (l.length + 1) false, by rw [List.getElem?_replicate, if_pos (by omega)], by simp, fun t _ _ _ => by omega⟩⟩
  rw [show ((l.length + 1 : Nat) : Int) - 1 = (l.length : Int) by omega] at e1
  rw [e1]
  simp only [Option.bind_some]
  rw [wrapN tb.length (by omega)]
  have := ih k (tb ++ [rows']) (by simp; omega) (by omega) (by
   rw [List.length_append, List.length_singleton]
   intro c hc
   by_cases hct : c < tb.length
   ·exact htb.app rows' c hct
   ·obtain rfl : c = tb.length := by omega
    exact ⟨rows', by rw [List.getElem?_append_right (Nat.le_refl _)]; simp, e2⟩)
  rw [List.length_append, List.length_singleton] at this
  exact this
theorem p_match {p : List Nd} {K : List (List Int)} {q : List Int} {l : List Int} (hp : p.length ≤ 1000) (hset : ∀ u ∈ p, u.2.length ≤ 1000) (hl : l.length ≤ 1000) (h : pileR p 0 [] [] = some (K, q)) : Kids p K p.length ∧ ∃ tb, z25.f p l = some (p, K, l, tb) ∧ tb.length = p.length ∧ TbV l (trs p K) p.length tb := by
 have hK : Kids p K p.length := (kids_of p hp p [] [] [] K q rfl rfl ⟨rfl, fun k hk => by simp at hk⟩ h).1
 refine ⟨hK, ?_⟩
 obtain ⟨tb, e1, e2, e3⟩ := p_l1 (bo := ((q.length : Int) == 1)) hp hset hl hK p.length (((p.length : Int) - 0).toNat + 2) [] (by simp) (by omega) (fun c hc => by simp at hc)
 refine ⟨tb, ?_, e2, e3⟩
 unfold z25.f
 rw [p_parts p (by omega), h]
 simp only [Option.bind_some]
 rw [show (([] : List (List (List Bool))).length : Int) = 0 from rfl] at e1
 rw [e1]
 rfl
theorem ix_flat {n f t : Nat} (hn : n ≤ 1000) (hf : f ≤ n) (ht : t ≤ n) : IntKind.i64.wrap ((IntKind.i64.wrap ((f : Int) * (IntKind.i64.wrap ((n : Int) + 1)))) + (t : Int)) = ((f * (n + 1) + t : Nat) : Int) := by
 have h1 : f * (n + 1) ≤ 1000 * 1001 := Nat.mul_le_mul (by omega) (by omega)
 have h2 : (f : Int) * ((n + 1 : Nat) : Int) = ((f * (n + 1) : Nat) : Int) := by rw [Int.natCast_mul]
 rw [wrapN n (by omega), h2]
 rw [yp (n := ((f * (n + 1) : Nat) : Int)) (by omega) (by omega), yp (by omega) (by omega)]
 omega
theorem ix_lt {n f t : Nat} (hf : f ≤ n) (ht : t ≤ n) : f * (n + 1) + t < (n + 1) * (n + 1) := by
 have h1 : f * (n + 1) ≤ n * (n + 1) := Nat.mul_le_mul hf (Nat.le_refl _)
 have h2 : (n + 1) * (n + 1) = n * (n + 1) + (n + 1) := Nat.succ_mul n (n + 1)
 omega
theorem ix_inj {n f t f' t' : Nat} (ht : t ≤ n) (ht' : t' ≤ n) (h : f * (n + 1) + t = f' * (n + 1) + t') : f = f' ∧ t = t' := by
 have a1 : (f * (n + 1) + t) / (n + 1) = f := by
  rw [Nat.mul_comm, Nat.mul_add_div (by omega), Nat.div_eq_of_lt (by omega), Nat.add_zero]
 have a2 : (f' * (n + 1) + t') / (n + 1) = f' := by
  rw [Nat.mul_comm, Nat.mul_add_div (by omega), Nat.div_eq_of_lt (by omega), Nat.add_zero]
 have : f = f' := by rw [← a1, ← a2, h]
 subst this
 exact ⟨rfl, by omega⟩
/-- A node's cells, laid flat. -/
def FlatV (l : List Int) (T : RT) (i j : Nat) (fl : List Bool) : Prop := fl.length = (l.length + 1) * (l.length + 1) ∧ ∀ f t, f ≤ t → t ≤ l.length → (i < f ∨ f = i ∧ t < j) → fl[f * (l.length + 1) + t]? = some (acc T (seg l f t))
def FlatA (l : List Int) (T : RT) (fl : List Bool) : Prop := fl.length = (l.length + 1) * (l.length + 1) ∧ ∀ f t, f ≤ t → t ≤ l.length → fl[f * (l.length + 1) + t]? = some (acc T (seg l f t))
theorem FlatA.rd {l : List Int} {T : RT} {fl : List Bool} (h : FlatA l T fl) (hl : l.length ≤ 1000) {f t : Nat} (hf : f ≤ t) (ht : t ≤ l.length) : rd? fl (IntKind.i64.wrap ((IntKind.i64.wrap ((f : Int) * (IntKind.i64.wrap ((l.length : Int) + 1)))) + (t : Int))) = some (acc T (seg l f t)) := by
 rw [ix_flat hl (by omega) ht]
 exact rd?_get' (h.2 f t hf ht)
theorem FlatV.rd {l : List Int} {T : RT} {fl : List Bool} {i j : Nat} (h : FlatV l T i j fl) (hl : l.length ≤ 1000) {f t : Nat} (hf : f ≤ t) (ht : t ≤ l.length) (hij : i < f ∨ f = i ∧ t < j) : rd? fl (IntKind.i64.wrap ((IntKind.i64.wrap ((f : Int) * (IntKind.i64.wrap ((l.length : Int) + 1)))) + (t : Int))) = some (acc T (seg l f t)) := by
 rw [ix_flat hl (by omega) ht]
 exact rd?_get' (h.2 f t hf ht hij)
def TfV (l : List Int) (ts : List RT) (n : Nat) (tb : List (List Bool)) : Prop := ∀ c, c < n → ∃ fl, tb[c]? = some fl ∧ FlatA l (getT ts (c : Int)) fl
theorem p_cellCat {l : List Int} {fa fb : List Bool} {A B : RT} (hl : l.length ≤ 1000) {f t : Nat} (ha : FlatA l A fa) (hb : FlatA l B fb) (hf : f ≤ t) (ht : t ≤ l.length) : ∀ (n i k : Nat), i + n = t - f + 1 → n < k →
  z2n.l2 l f t fa fb k ((f + i : Nat) : Int) = some (if (List.range' i n).any (fun i => acc A (seg l f (f + i)) && acc B (seg l (f + i) t)) then .ret true else .go ()) := by
 intro n
 induction n with
 | zero =>
  intro i k hi hk
  obtain ⟨k, rfl⟩ := Nat.exists_eq_succ_of_ne_zero (show k ≠ 0 by omega)
  rw [z2n.l2, if_neg (by simp; omega)]
  rfl
 | succ n ih =>
  intro i k hi hk
  obtain ⟨k, rfl⟩ := Nat.exists_eq_succ_of_ne_zero (show k ≠ 0 by omega)
  rw [z2n.l2, if_pos (by simp; omega), ha.rd hl (by omega) (by omega), hb.rd hl (by omega) ht]
  simp only [Option.bind_some]
  rw [List.range'_succ, List.any_cons]
  have e : (if acc A (seg l f (f + i)) = true then some (acc B (seg l (f + i) t)) else some false) = some (acc A (seg l f (f + i)) && acc B (seg l (f + i) t)) := by cases acc A (seg l f (f + i)) <;> rfl
  rw [e]
  simp only [Option.bind_some]
  cases acc A (seg l f (f + i)) && acc B (seg l (f + i) t) with
  | true => simp
  | false =>
   simp only [Bool.false_eq_true, if_false, Bool.false_or]
   rw [yp (n := ((f + i : Nat) : Int) + 1) (by omega) (by omega), show (((f + i : Nat)) : Int) + 1 = ((f + (i + 1) : Nat) : Int) by omega]
   exact ih (i + 1) k (by omega) (by omega)
/-- Where the rest is empty, a repetition holds. -/
theorem acc_star_nil (A : RT) (l : List Int) (t : Nat) (ht : t ≤ l.length) : acc (.star A) (seg l t t) = true := by
 rw [acc_star_seg A l t t (Nat.le_refl _) ht]
 simp
theorem p_cellStar {l : List Int} {tb : List (List Bool)} {fl fa : List Bool} {A : RT} {k : Nat} {K : RT} (hl : l.length ≤ 1000) {f t : Nat} (hk1 : 1 ≤ k) (hk2 : k ≤ 1000) (ha0 : tb[k - 1]? = some fa) (ha : FlatA l A fa) (hs : FlatV l (.star A) f t fl) (hf : f ≤ t) (ht : t ≤ l.length) : ∀ (n i kf : Nat), i + n = t - f → n < kf →
  z2n.l1 tb fl l k f t kf ((f + 1 + i : Nat) : Int) = some (if (List.range' i n).any (fun i => acc A (seg l f (f + 1 + i)) && acc (.star A) (seg l (f + 1 + i) t)) then .ret (.ret true) else .go ()) := by
 intro n
 induction n with
 | zero =>
  intro i kf hi hk
  obtain ⟨kf, rfl⟩ := Nat.exists_eq_succ_of_ne_zero (show kf ≠ 0 by omega)
  rw [z2n.l1, if_neg (by simp; omega)]
  rfl
 | succ n ih =>
  intro i kf hi hk
  obtain ⟨kf, rfl⟩ := Nat.exists_eq_succ_of_ne_zero (show kf ≠ 0 by omega)
  rw [z2n.l1, if_pos (by simp; omega), yp (n := (k : Int) - 1) (by omega) (by omega), show (k : Int) - 1 = ((k - 1 : Nat) : Int) by omega, rd?_get' ha0]
  simp only [Option.bind_some]
  rw [ha.rd hl (by omega) (by omega)]
  simp only [Option.bind_some]
  rw [List.range'_succ, List.any_cons, hs.rd hl (by omega) ht (.inl (by omega))]
  simp only [Option.bind_some]
  have e : (if acc A (seg l f (f + 1 + i)) = true then (if (((f + 1 + i : Nat) : Int) == (t : Int)) = true then some true else some (acc (.star A) (seg l (f + 1 + i) t))) else some false) = some (acc A (seg l f (f + 1 + i)) && acc (.star A) (seg l (f + 1 + i) t)) := by
   cases acc A (seg l f (f + 1 + i)) with
   | false => rfl
   | true =>
    by_cases hc : f + 1 + i = t
    ·rw [hc, acc_star_nil A l t ht]; simp
    ·rw [if_neg (show ¬ (((f + 1 + i : Nat) : Int) == (t : Int)) = true by simp; omega)]; simp
  rw [e]
  simp only [Option.bind_some]
  cases acc A (seg l f (f + 1 + i)) && acc (.star A) (seg l (f + 1 + i) t) with
  | true => simp
  | false =>
   simp only [Bool.false_eq_true, if_false, Bool.false_or]
   rw [yp (n := ((f + 1 + i : Nat) : Int) + 1) (by omega) (by omega), show (((f + 1 + i : Nat)) : Int) + 1 = ((f + 1 + (i + 1) : Nat) : Int) by omega]
   have := ih (i + 1) kf (by omega) (by omega)
   rw [show (k : Int) = (k : Int) from rfl] at this
   exact this
theorem p_cell {p : List Nd} {K : List (List Int)} {l : List Int} {tb : List (List Bool)} {fl : List Bool} (hp : p.length ≤ 1000) (hset : ∀ u ∈ p, u.2.length ≤ 1000 ∧ u.2.length % 2 = 0) (hl : l.length ≤ 1000) (hK : Kids p K p.length) {k : Nat} (hk : k < p.length) (htb : TfV l (trs p K) k tb) {f t : Nat} (hV : FlatV l (getT (trs p K) (k : Int)) f t fl) (hf : f ≤ t) (ht : t ≤ l.length) :
  z2n.f p tb fl l (k : Int) p[k].1 p[k].2 (f : Int) (t : Int) = some (acc (getT (trs p K) (k : Int)) (seg l f t)) := by
 obtain ⟨ks, hks, hko⟩ := hK.2 k hk hk
 obtain ⟨k0, k1, k2, k3⟩ := hko
 unfold z2n.f
 have hsk := hset _ (List.getElem_mem hk)
 have hw : IntKind.i64.wrap ((k : Int) - 1) = (k : Int) - 1 := yp (by omega) (by omega)
 have leaf : ∀ h0 : ar p[k].1 = 0, getT (trs p K) (k : Int) = mkT p[k] [] := fun h0 => by
  have := trs_at hK hk hks (by rw [k0 h0]; simp)
  rw [k0 h0] at this
  exact this
 have one : ∀ h0 : ar p[k].1 = 1, 1 ≤ k ∧ getT (trs p K) (k : Int) = mkT p[k] [getT (trs p K) ((k - 1 : Nat) : Int)] ∧ ∃ ra, tb[k - 1]? = some ra ∧ FlatA l (getT (trs p K) ((k - 1 : Nat) : Int)) ra ∧ rd? tb ((k : Int) - 1) = some ra := fun h0 => by
  obtain ⟨e1, g1⟩ := k1 h0
  have e2 : ((k : Int) - 1) = ((k - 1 : Nat) : Int) := by omega
  rw [e2] at e1 ⊢
  have ht' := trs_at hK hk hks (by rw [e1]; intro c hc; simp at hc; omega)
  obtain ⟨ra, ha1, ha2⟩ := htb (k - 1) (by omega)
  rw [e1] at ht'
  exact ⟨g1, ht', ra, ha1, ha2, rd?_get' ha1⟩
 have two : ∀ h0 : ar p[k].1 = 2, ∃ g : Nat, z2m.f p (k : Int) = some (g : Int) ∧ getT (trs p K) (k : Int) = mkT p[k] [getT (trs p K) (g : Int), getT (trs p K) ((k - 1 : Nat) : Int)] ∧ ∃ ra rb, rd? tb (g : Int) = some ra ∧ FlatA l (getT (trs p K) (g : Int)) ra ∧ rd? tb ((k : Int) - 1) = some rb ∧ FlatA l (getT (trs p K) ((k - 1 : Nat) : Int)) rb := fun h0 => by
  obtain ⟨g, e1, g0, g1, g2⟩ := k2 h0
  obtain ⟨g, rfl⟩ := Int.eq_ofNat_of_zero_le g0
  have e2 : ((k : Int) - 1) = ((k - 1 : Nat) : Int) := by omega
  rw [e2] at e1 ⊢
  have ht' := trs_at hK hk hks (by rw [e1]; intro c hc; simp at hc; omega)
  obtain ⟨ra, ha1, ha2⟩ := htb g (by omega)
  obtain ⟨rb, hb1, hb2⟩ := htb (k - 1) (by omega)
  rw [e1] at ht'
  exact ⟨g, g2, ht', ra, rb, rd?_get' ha1, ha2, rd?_get' hb1, hb2⟩
 rw [hw]
 rcases ar_cases k3 with h | h | h | h | h | h | h
 ·rw [leaf (by rw [h]; rfl)]
  simp only [h, mkT, if_true, beq_self_eq_true, Option.bind_some]
  rw [acc_nil_seg l f t hf ht]
  congr 1
  rw [Bool.eq_iff_iff]
  simp
  omega
 ·have hm : mkT p[k] [] = .set p[k].2 := by unfold mkT; rw [if_neg (by omega), if_pos h]
  rw [leaf (by rw [h]; rfl), hm, acc_set_seg _ l f t hf ht]
  simp only [h]
  have c1 : ((2 : Int) == 1) = false := by decide
  have c2 : ((2 : Int) == 2) = true := by decide
  simp only [c1, c2, Bool.false_eq_true, if_false, if_true]
  rw [wrapN f (by omega)]
  by_cases hft : t = f + 1
  ·subst hft
   rw [if_pos (by simp), rd?_at (show f < l.length by omega)]
   simp only [Option.bind_some]
   rw [p_specIn _ _ (by omega) hsk.2]
   simp
  ·rw [if_neg (by simp; omega), dif_neg hft]
   rfl
 ·obtain ⟨g, e1, e2, ra, rb, a1, a2, b1, b2⟩ := two (by rw [h]; rfl)
  have hm : mkT p[k] [getT (trs p K) (g : Int), getT (trs p K) ((k - 1 : Nat) : Int)] = .cat (getT (trs p K) (g : Int)) (getT (trs p K) ((k - 1 : Nat) : Int)) := by unfold mkT; simp [h]
  rw [e2, hm, acc_cat_seg _ _ l f t hf ht, e1]
  have hl2 := p_cellCat hl a2 b2 hf ht (t - f + 1) 0 (((t : Int) - (f : Int)).toNat + 2) (by omega) (by omega)
  simp only [Nat.add_zero] at hl2
  simp only [h]
  have c1 : ((3 : Int) == 1) = false := by decide
  have c2 : ((3 : Int) == 2) = false := by decide
  have c4 : ((3 : Int) == 4) = false := by decide
  have c5 : ((3 : Int) == 5) = false := by decide
  have c7 : ((3 : Int) == 7) = false := by decide
  have c6 : ((3 : Int) == 6) = false := by decide
  simp only [c1, c2, c4, c5, c6, c7, Bool.false_eq_true, if_false, Option.bind_some, a1, b1]
  rw [hl2, List.range_eq_range']
  simp only [Option.bind_some]
  cases (List.range' 0 (t - f + 1)).any fun i => acc (getT (trs p K) (g : Int)) (seg l f (f + i)) && acc (getT (trs p K) ((k - 1 : Nat) : Int)) (seg l (f + i) t) <;> rfl
 ·obtain ⟨g, e1, e2, ra, rb, a1, a2, b1, b2⟩ := two (by rw [h]; rfl)
  have hm : mkT p[k] [getT (trs p K) (g : Int), getT (trs p K) ((k - 1 : Nat) : Int)] = .or (getT (trs p K) (g : Int)) (getT (trs p K) ((k - 1 : Nat) : Int)) := by unfold mkT; simp [h]
  rw [e2, hm, e1]
  simp only [h]
  have c1 : ((4 : Int) == 1) = false := by decide
  have c2 : ((4 : Int) == 2) = false := by decide
  have c4 : ((4 : Int) == 4) = true := by decide
  have c7 : ((4 : Int) == 7) = false := by decide
  have c6 : ((4 : Int) == 6) = false := by decide
  simp only [c1, c2, c4, c6, c7, Bool.false_eq_true, if_false, if_true, Option.bind_some, a1, b1, a2.rd hl hf ht, b2.rd hl hf ht]
  show _ = some (acc _ _ || acc _ _)
  cases acc (getT (trs p K) (g : Int)) (seg l f t) <;> rfl
 ·obtain ⟨g, e1, e2, ra, rb, a1, a2, b1, b2⟩ := two (by rw [h]; rfl)
  have hm : mkT p[k] [getT (trs p K) (g : Int), getT (trs p K) ((k - 1 : Nat) : Int)] = .and (getT (trs p K) (g : Int)) (getT (trs p K) ((k - 1 : Nat) : Int)) := by unfold mkT; simp [h]
  rw [e2, hm, e1]
  simp only [h]
  have c1 : ((5 : Int) == 1) = false := by decide
  have c2 : ((5 : Int) == 2) = false := by decide
  have c4 : ((5 : Int) == 4) = false := by decide
  have c5 : ((5 : Int) == 5) = true := by decide
  have c7 : ((5 : Int) == 7) = false := by decide
  have c6 : ((5 : Int) == 6) = false := by decide
  simp only [c1, c2, c4, c5, c6, c7, Bool.false_eq_true, if_false, if_true, Option.bind_some, a1, b1, a2.rd hl hf ht, b2.rd hl hf ht]
  show _ = some (acc _ _ && acc _ _)
  cases acc (getT (trs p K) (g : Int)) (seg l f t) <;> rfl
 ·obtain ⟨g1, e2, ra, a1, a2, a3⟩ := one (by rw [h]; rfl)
  have hm : mkT p[k] [getT (trs p K) ((k - 1 : Nat) : Int)] = .star (getT (trs p K) ((k - 1 : Nat) : Int)) := by unfold mkT; simp [h]
  rw [hm] at e2
  rw [e2] at hV ⊢
  rw [acc_star_seg _ l f t hf ht]
  have hl2 := p_cellStar (K := .nil) hl g1 (by omega) a1 a2 hV hf ht (t - f) 0 (((t : Int) - (((f + 1 : Nat)) : Int)).toNat + 2) (by omega) (by omega)
  simp only [Nat.add_zero] at hl2
  simp only [h]
  have c1 : ((6 : Int) == 1) = false := by decide
  have c2 : ((6 : Int) == 2) = false := by decide
  have c7 : ((6 : Int) == 7) = false := by decide
  have c6 : ((6 : Int) == 6) = true := by decide
  simp only [c1, c2, c6, c7, Bool.false_eq_true, if_false, if_true]
  by_cases hft : f = t
  ·subst hft
   rw [if_pos (by simp)]
   simp
  ·rw [if_neg (by simp; omega), wrapN f (by omega), hl2, List.range_eq_range']
   have : decide (f = t) = false := by simpa using hft
   rw [this, Bool.false_or]
   simp only [Option.bind_some]
   cases (List.range' 0 (t - f)).any fun i => acc (getT (trs p K) ((k - 1 : Nat) : Int)) (seg l f (f + 1 + i)) && acc (.star (getT (trs p K) ((k - 1 : Nat) : Int))) (seg l (f + 1 + i) t) <;> rfl
 ·obtain ⟨g1, e2, ra, a1, a2, a3⟩ := one (by rw [h]; rfl)
  have hm : mkT p[k] [getT (trs p K) ((k - 1 : Nat) : Int)] = .not (getT (trs p K) ((k - 1 : Nat) : Int)) := by unfold mkT; simp [h]
  rw [e2, hm]
  simp only [h]
  have c1 : ((7 : Int) == 1) = false := by decide
  have c2 : ((7 : Int) == 2) = false := by decide
  have c7 : ((7 : Int) == 7) = true := by decide
  simp only [c1, c2, c7, Bool.false_eq_true, if_false, if_true, Option.bind_some, a3, a2.rd hl hf ht]
  rfl
theorem FlatV.last {l : List Int} {T : RT} {f : Nat} {fl : List Bool} (h : FlatV l T f (l.length + 1) fl) : ∀ g, g + 1 = f → FlatV l T g g fl := fun g hg =>
 ⟨h.1, fun r t h1 h2 ho => h.2 r t h1 h2 (by omega)⟩
theorem FlatV.all {l : List Int} {T : RT} {fl : List Bool} (h : FlatV l T 0 (l.length + 1) fl) : FlatA l T fl :=
 ⟨h.1, fun r t h1 h2 => h.2 r t h1 h2 (by omega)⟩
theorem p_t3 {p : List Nd} {K : List (List Int)} {l : List Int} {tb : List (List Bool)} (hp : p.length ≤ 1000) (hset : ∀ u ∈ p, u.2.length ≤ 1000 ∧ u.2.length % 2 = 0) (hl : l.length ≤ 1000) (hK : Kids p K p.length) {c : Nat} (hk : c < p.length) (htb : TfV l (trs p K) c tb) {f : Nat} (hf : f ≤ l.length) : ∀ (m t k : Nat) (fl : List Bool), f ≤ t → t + m = l.length + 1 → m < k → FlatV l (getT (trs p K) (c : Int)) f t fl → ∃ fl', z2o.l3 p l tb (c : Int) p[c] (f : Int) k fl (t : Int) = some fl' ∧ FlatV l (getT (trs p K) (c : Int)) f (l.length + 1) fl' := by
 intro m
 induction m with
 | zero =>
  intro t k fl h1 h2 hk2 hV
  obtain ⟨k, rfl⟩ := Nat.exists_eq_succ_of_ne_zero (show k ≠ 0 by omega)
  rw [z2o.l3, wrapN l.length (by omega), if_neg (by simp; omega)]
  obtain rfl : t = l.length + 1 := by omega
  exact ⟨fl, rfl, hV⟩
 | succ m ih =>
  intro t k fl h1 h2 hk2 hV
  obtain ⟨k, rfl⟩ := Nat.exists_eq_succ_of_ne_zero (show k ≠ 0 by omega)
  have htl : t ≤ l.length := by omega
  have q2 := p_cell hp hset hl hK hk htb hV h1 htl
  have hi : f * (l.length + 1) + t < fl.length := by rw [hV.1]; exact ix_lt hf htl
  have c1 : decide ((t : Int) < IntKind.i64.wrap ((l.length : Int) + 1)) = true := by rw [wrapN l.length (by omega)]; simp; omega
  rw [z2o.l3, if_pos c1, q2]
  simp only [Option.bind_some]
  rw [ix_flat hl hf htl, rd?_at hi]
  simp only [Option.bind_some]
  rw [st?_at _ hi]
  simp only [Option.bind_some]
  rw [wrapN t (by omega)]
  refine ih (t + 1) k _ (by omega) (by omega) (by omega) ⟨by simpa using hV.1, fun r t' g1 g2 g3 => ?_⟩
  by_cases he : f * (l.length + 1) + t = r * (l.length + 1) + t'
  ·obtain ⟨rfl, rfl⟩ := ix_inj htl g2 he
   rw [List.getElem?_set_self hi]
  ·rw [List.getElem?_set_ne he]
   refine hV.2 r t' g1 g2 ?_
   rcases g3 with g3 | ⟨g3, g4⟩
   ·exact .inl g3
   ·subst g3
    exact .inr ⟨rfl, by have : t ≠ t' := fun h => he (by rw [h]); omega⟩
theorem p_t2 {p : List Nd} {K : List (List Int)} {l : List Int} {tb : List (List Bool)} (hp : p.length ≤ 1000) (hset : ∀ u ∈ p, u.2.length ≤ 1000 ∧ u.2.length % 2 = 0) (hl : l.length ≤ 1000) (hK : Kids p K p.length) {c : Nat} (hk : c < p.length) (htb : TfV l (trs p K) c tb) : ∀ (q k : Nat) (fl : List Bool), q ≤ l.length + 1 → q < k → FlatV l (getT (trs p K) (c : Int)) q (l.length + 1) fl → ∃ fl', z2o.l2 p l tb (c : Int) p[c] k fl ((q : Int) - 1) = some fl' ∧ FlatA l (getT (trs p K) (c : Int)) fl' := by
 intro q
 induction q with
 | zero =>
  intro k fl h1 hk2 hV
  obtain ⟨k, rfl⟩ := Nat.exists_eq_succ_of_ne_zero (show k ≠ 0 by omega)
  rw [z2o.l2, if_neg (by decide)]
  exact ⟨fl, rfl, hV.all⟩
 | succ q ih =>
  intro k fl h1 hk2 hV
  obtain ⟨k, rfl⟩ := Nat.exists_eq_succ_of_ne_zero (show k ≠ 0 by omega)
  rw [show ((q + 1 : Nat) : Int) - 1 = (q : Int) by omega, z2o.l2, if_pos (by simp), wrapN l.length (by omega)]
  obtain ⟨fl', e1, e2⟩ := p_t3 hp hset hl hK hk htb (f := q) (by omega) (l.length + 1 - q) q ((((l.length + 1 : Nat) : Int) - (q : Int)).toNat + 2) fl (Nat.le_refl _) (by omega) (by omega) (hV.last q rfl)
  rw [e1]
  simp only [Option.bind_some]
  rw [yp (by omega) (by omega)]
  exact ih k fl' (by omega) (by omega) e2
theorem p_t1 {p : List Nd} {K : List (List Int)} {l : List Int} (hp : p.length ≤ 1000) (hset : ∀ u ∈ p, u.2.length ≤ 1000 ∧ u.2.length % 2 = 0) (hl : l.length ≤ 1000) (hK : Kids p K p.length) : ∀ (m k : Nat) (tb : List (List Bool)), tb.length + m = p.length → m < k → TfV l (trs p K) tb.length tb → ∃ tb', z2o.l1 p l k tb (tb.length : Int) = some tb' ∧ tb'.length = p.length ∧ TfV l (trs p K) p.length tb' := by
 intro m
 induction m with
 | zero =>
  intro k tb h1 hk htb
  obtain ⟨k, rfl⟩ := Nat.exists_eq_succ_of_ne_zero (show k ≠ 0 by omega)
  rw [z2o.l1, if_neg (by simp; omega)]
  exact ⟨tb, rfl, by omega, by rw [← show tb.length = p.length by omega]; exact htb⟩
 | succ m ih =>
  intro k tb h1 hk htb
  obtain ⟨k, rfl⟩ := Nat.exists_eq_succ_of_ne_zero (show k ≠ 0 by omega)
  have hc : tb.length < p.length := by omega
  have hw : IntKind.i64.wrap (((l.length + 1 : Nat) : Int) * ((l.length + 1 : Nat) : Int)) = (((l.length + 1) * (l.length + 1) : Nat) : Int) := by
   have : (l.length + 1) * (l.length + 1) ≤ 1001 * 1001 := Nat.mul_le_mul (by omega) (by omega)
   rw [← Int.natCast_mul]
   exact yp (by omega) (by omega)
  have hb : (l.length + 1) * (l.length + 1) ≤ 1001 * 1001 := Nat.mul_le_mul (by omega) (by omega)
  rw [z2o.l1, if_pos (by simp; omega), rd?_at hc]
  simp only [Option.bind_some]
  rw [wrapN l.length (by omega), hw, mk?_at (by omega)]
  simp only [Option.bind_some]
  rw [yp (n := ((l.length + 1 : Nat) : Int) - 1) (by omega) (by omega)]
  obtain ⟨fl', e1, e2⟩ := p_t2 hp hset hl hK hc htb (l.length + 1) ((((l.length + 1 : Nat) : Int) - 1 - 0).toNat + 2) (List.replicate ((l.length + 1) * (l.length + 1)) false) (Nat.le_refl _) (by omega) ⟨by simp, fun f t h1 h2 h3 => by omega⟩
  rw [e1]
  simp only [Option.bind_some]
  rw [app?_at (by simp; omega)]
  simp only [Option.bind_some]
  rw [wrapN tb.length (by omega)]
  have := ih k (tb ++ [fl']) (by simp; omega) (by omega) (by
   rw [List.length_append, List.length_singleton]
   intro c hct'
   by_cases hct : c < tb.length
   ·obtain ⟨fl, g1, g2⟩ := htb c hct
    exact ⟨fl, by rw [List.getElem?_append_left hct]; exact g1, g2⟩
   ·obtain rfl : c = tb.length := by omega
    exact ⟨fl', by rw [List.getElem?_append_right (Nat.le_refl _)]; simp, e2⟩)
  rw [List.length_append, List.length_singleton] at this
  exact this
theorem p_table {p : List Nd} {K : List (List Int)} {l : List Int} (hp : p.length ≤ 1000) (hset : ∀ u ∈ p, u.2.length ≤ 1000 ∧ u.2.length % 2 = 0) (hl : l.length ≤ 1000) (hK : Kids p K p.length) : ∃ tb, z2o.f p l = some tb ∧ tb.length = p.length ∧ TfV l (trs p K) p.length tb := by
 obtain ⟨tb, e1, e2, e3⟩ := p_t1 hp hset hl hK p.length (((p.length : Int) - 0).toNat + 2) [] (by simp) (by omega) (fun c hc => by simp at hc)
 refine ⟨tb, ?_, e2, e3⟩
 unfold z2o.f
 rw [show (([] : List (List Bool)).length : Int) = 0 from rfl] at e1
 rw [e1]
 rfl
def longF (g : Nat → Bool) (f : Nat) : Nat → Option Nat
 | 0 => none
 | m + 1 => if g (f + m) = true then some (f + m) else longF g f m
def findF (g : Nat → Nat → Bool) : Nat → Nat → Option (Nat × Nat)
 | 0, _ => none
 | m + 1, f => match longF (g f) f (m + 1) with
  | some t => some (f, t)
  | none => findF g m (f + 1)
theorem longF_bd {g : Nat → Bool} {f : Nat} : ∀ {m t : Nat}, longF g f m = some t → f ≤ t ∧ t < f + m
 | 0, t, h => by cases h
 | m + 1, t, h => by
  unfold longF at h
  split at h
  ·injection h with h
   omega
  ·have := longF_bd h
   omega
theorem findF_bd {g : Nat → Nat → Bool} : ∀ {m f a t : Nat}, findF g m f = some (a, t) → f ≤ a ∧ a ≤ t ∧ t < f + m
 | 0, f, a, t, h => by cases h
 | m + 1, f, a, t, h => by
  unfold findF at h
  split at h
  ·rename_i t' h'
   injection h with h
   injection h with h1 h2
   subst h1 h2
   have := longF_bd h'
   omega
  ·have := findF_bd h
   omega
theorem longF_sh (g g' : Nat → Bool) (s : Nat) (f : Nat) : ∀ (m : Nat), (∀ t, f ≤ t → t < f + m → g' t = g (s + t)) → longF g (s + f) m = (longF g' f m).map (s + ·)
 | 0, _ => rfl
 | m + 1, h => by
  unfold longF
  rw [h (f + m) (by omega) (by omega), Nat.add_assoc]
  split
  ·rfl
  ·exact longF_sh g g' s f m (fun t h1 h2 => h t h1 (by omega))
theorem findF_sh (g g' : Nat → Nat → Bool) (s : Nat) : ∀ (m f : Nat), (∀ a t, f ≤ a → a ≤ t → t < f + m → g' a t = g (s + a) (s + t)) → findF g m (s + f) = (findF g' m f).map fun o => (s + o.1, s + o.2)
 | 0, _, _ => rfl
 | m + 1, f, h => by
  unfold findF
  rw [longF_sh (g (s + f)) (g' f) s f (m + 1) (fun t h1 h2 => h f t (Nat.le_refl _) h1 h2)]
  cases longF (g' f) f (m + 1) with
  | some t => rfl
  | none => exact findF_sh g g' s m (f + 1) (fun a t h1 h2 h3 => h a t (by omega) h2 (by omega))
theorem seg_sh (l : List Int) (s f t : Nat) : seg (l.drop s) f t = seg l (s + f) (s + t) := by
 unfold seg
 rw [List.take_drop, List.drop_drop]
/-- What a pattern's last node matches between two places. -/
def gT (T : RT) (l : List Int) (f t : Nat) : Bool := acc T (seg l f t)
theorem p_longest {p : List Nd} {K : List (List Int)} {l : List Int} {tb : List (List (List Bool))} {T : RT} {rows : List (List Bool)} (hp : 1 ≤ p.length ∧ p.length ≤ 1000) (hl : l.length ≤ 1000) (h1 : tb[p.length - 1]? = some rows) (h2 : RowsA l T rows) (f : Nat) : ∀ (m k : Nat), f + m ≤ l.length + 1 → m < k → z26.l1 p K l tb (f : Int) k ((f + m : Nat) - 1 : Int) = some (match longF (gT T l f) f m with | some t => .ret (t : Int) | none => .go ()) := by
 intro m
 induction m with
 | zero =>
  intro k hm hk
  obtain ⟨k, rfl⟩ := Nat.exists_eq_succ_of_ne_zero (show k ≠ 0 by omega)
  rw [z26.l1, if_neg (by simp; omega)]
  rfl
 | succ m ih =>
  intro k hm hk
  obtain ⟨k, rfl⟩ := Nat.exists_eq_succ_of_ne_zero (show k ≠ 0 by omega)
  rw [show (((f + (m + 1) : Nat)) : Int) - 1 = ((f + m : Nat) : Int) by omega, z26.l1, if_pos (by simp; omega), yp (n := (p.length : Int) - 1) (by omega) (by omega), show (p.length : Int) - 1 = ((p.length - 1 : Nat) : Int) by omega, h2.has h1 (by omega) (by omega)]
  simp only [Option.bind_some]
  unfold longF
  show (if gT T l f (f + m) = true then _ else _) = _
  by_cases hg : gT T l f (f + m) = true
  ·rw [if_pos hg, if_pos hg]
  ·rw [if_neg hg, if_neg hg, yp (by omega) (by omega)]
   exact ih k (by omega) (by omega)
theorem p_find {p : List Nd} {K : List (List Int)} {l : List Int} {tb : List (List (List Bool))} {T : RT} {rows : List (List Bool)} (hp : 1 ≤ p.length ∧ p.length ≤ 1000) (hl : l.length ≤ 1000) (h1 : tb[p.length - 1]? = some rows) (h2 : RowsA l T rows) (s : Nat) (hs : s ≤ l.length + 1) : z27.f p K l tb (s : Int) (l.length : Int) = some (match findF (gT T l) (l.length + 1 - s) s with | some (a, t) => ((a : Int), (t : Int), true) | none => (0, 0, false)) := by
 have key : ∀ (m f k : Nat), f + m = l.length + 1 → m < k → z27.l1 p K l tb (l.length : Int) k (f : Int) = some (match findF (gT T l) m f with | some (a, t) => .ret ((a : Int), (t : Int), true) | none => .go ()) := by
  intro m
  induction m with
  | zero =>
   intro f k hm hk
   obtain ⟨k, rfl⟩ := Nat.exists_eq_succ_of_ne_zero (show k ≠ 0 by omega)
   rw [z27.l1, if_neg (by simp; omega)]
   rfl
  | succ m ih =>
   intro f k hm hk
   obtain ⟨k, rfl⟩ := Nat.exists_eq_succ_of_ne_zero (show k ≠ 0 by omega)
   rw [z27.l1, if_pos (by simp; omega)]
   unfold z26.f
   have := p_longest (K := K) hp hl h1 h2 f (m + 1) (((l.length : Int) - (f : Int)).toNat + 2) (by omega) (by omega)
   rw [show (((f + (m + 1) : Nat)) : Int) - 1 = (l.length : Int) by omega] at this
   rw [this]
   simp only [Option.bind_some]
   unfold findF
   cases longF (gT T l f) f (m + 1) with
   | some t =>
    simp only [Option.bind_some]
    rw [if_pos (by simp)]
   | none =>
    simp only [Option.bind_some]
    rw [if_neg (by decide), wrapN f (by omega)]
    exact ih (f + 1) k (by omega) (by omega)
 unfold z27.f
 rw [key (l.length + 1 - s) s _ (by omega) (by omega)]
 cases findF (gT T l) (l.length + 1 - s) s with
 | some o => rfl
 | none => rfl
theorem p_l7 {p : List Nd} {K : List (List Int)} {l : List Int} (hp : 1 ≤ p.length ∧ p.length ≤ 1000) (hset : ∀ u ∈ p, u.2.length ≤ 1000 ∧ u.2.length % 2 = 0) (hl : l.length ≤ 1000) (hK : Kids p K p.length) : z2p.f p l = some (match findF (gT (getT (trs p K) ((p.length - 1 : Nat) : Int)) l) (l.length + 1) 0 with | some (a, t) => ((a : Int), (t : Int), true) | none => (0, 0, false)) := by
 obtain ⟨tb, e1, e2, e3⟩ := p_table hp.2 hset hl hK
 obtain ⟨fl, h1, h2⟩ := e3 (p.length - 1) (by omega)
 generalize hT : getT (trs p K) ((p.length - 1 : Nat) : Int) = T at h2 ⊢
 have key2 : ∀ (f m k : Nat), f + m ≤ l.length + 1 → m < k → z2p.l2 l fl (f : Int) k ((f + m : Nat) - 1 : Int) = some (match longF (gT T l f) f m with | some t => .ret (.ret (.ret ((f : Int), (t : Int), true))) | none => .go ()) := by
  intro f m
  induction m with
  | zero =>
   intro k hm hk
   obtain ⟨k, rfl⟩ := Nat.exists_eq_succ_of_ne_zero (show k ≠ 0 by omega)
   rw [z2p.l2, if_neg (by simp; omega)]
   rfl
  | succ m ih =>
   intro k hm hk
   obtain ⟨k, rfl⟩ := Nat.exists_eq_succ_of_ne_zero (show k ≠ 0 by omega)
   rw [show (((f + (m + 1) : Nat)) : Int) - 1 = ((f + m : Nat) : Int) by omega, z2p.l2, if_pos (by simp; omega), h2.rd hl (by omega) (by omega)]
   simp only [Option.bind_some]
   unfold longF
   show (if gT T l f (f + m) = true then _ else _) = _
   by_cases hg : gT T l f (f + m) = true
   ·rw [if_pos hg, if_pos hg]
   ·rw [if_neg hg, if_neg hg, yp (by omega) (by omega)]
    exact ih k (by omega) (by omega)
 have key : ∀ (m f k : Nat), f + m = l.length + 1 → m < k → z2p.l1 l fl k (f : Int) = some (match findF (gT T l) m f with | some (a, t) => .ret ((a : Int), (t : Int), true) | none => .go ()) := by
  intro m
  induction m with
  | zero =>
   intro f k hm hk
   obtain ⟨k, rfl⟩ := Nat.exists_eq_succ_of_ne_zero (show k ≠ 0 by omega)
   rw [z2p.l1, wrapN l.length (by omega), if_neg (by simp; omega)]
   rfl
  | succ m ih =>
   intro f k hm hk
   obtain ⟨k, rfl⟩ := Nat.exists_eq_succ_of_ne_zero (show k ≠ 0 by omega)
   rw [z2p.l1, wrapN l.length (by omega), if_pos (by simp; omega), yp (n := ((l.length + 1 : Nat) : Int) - 1) (by omega) (by omega)]
   have := key2 f (m + 1) ((((l.length + 1 : Nat) : Int) - 1 - (f : Int)).toNat + 2) (by omega) (by omega)
   rw [show (((f + (m + 1) : Nat)) : Int) - 1 = ((l.length + 1 : Nat) : Int) - 1 by omega] at this
   rw [this]
   simp only [Option.bind_some]
   unfold findF
   cases longF (gT T l f) f (m + 1) with
   | some t => rfl
   | none =>
    simp only [Option.bind_some]
    rw [wrapN f (by omega)]
    exact ih (f + 1) k (by omega) (by omega)
 unfold z2p.f
 rw [e1]
 simp only [Option.bind_some]
 rw [yp (n := (p.length : Int) - 1) (by omega) (by omega), show (p.length : Int) - 1 = ((p.length - 1 : Nat) : Int) by omega, rd?_get' h1]
 simp only [Option.bind_some]
 have := key (l.length + 1) 0 ((((l.length + 1 : Nat) : Int) - 0).toNat + 2) (by omega) (by omega)
 rw [wrapN l.length (by omega)]
 rw [show ((0 : Nat) : Int) = 0 from rfl] at this
 rw [this]
 cases findF (gT T l) (l.length + 1) 0 with
 | some o => rfl
 | none => rfl
theorem okRe_facts {p : List Nd} (h : okRe p = true) : 1 ≤ p.length ∧ p.length ≤ 40 ∧ (∀ u ∈ p, u.2.length ≤ 24 ∧ u.2.length % 2 = 0) ∧ ∃ K q, pileR p 0 [] [] = some (K, q) := by
 unfold okRe at h
 simp only [Bool.and_eq_true, decide_eq_true_eq] at h
 obtain ⟨⟨⟨h1, h2⟩, h3⟩, h4⟩ := h
 refine ⟨by omega, by omega, fun u hu => ?_, ?_⟩
 ·have := List.all_eq_true.1 h3 u hu
  unfold okNd at this
  simp only [Bool.and_eq_true] at this
  have := this.1.1
  unfold okSet at this
  simp only [Bool.and_eq_true, decide_eq_true_eq] at this
  exact ⟨this.2, this.1.2⟩
 ·cases hq : pileR p 0 [] [] with
  | none => rw [hq] at h4; cases h4
  | some o => exact ⟨o.1, o.2, rfl⟩
/-- Whether some element passes a test that may look at its place. -/
def anyI {α : Type} (t : Nat → α → Bool) : Nat → List α → Bool
 | _, [] => false
 | n, u :: us => t n u || anyI t (n + 1) us
theorem anyI_or {α : Type} (t v : Nat → α → Bool) : ∀ (n : Nat) (us : List α), anyI (fun i u => t i u || v i u) n us = (anyI t n us || anyI v n us)
 | _, [] => rfl
 | n, u :: us => by
  rw [anyI, anyI, anyI, anyI_or t v (n + 1) us]
  cases t n u <;> cases v n u <;> cases anyI t (n + 1) us <;> cases anyI v (n + 1) us <;> rfl
theorem anyI_any {α : Type} (t : α → Bool) : ∀ (n : Nat) (us : List α), anyI (fun _ u => t u) n us = us.any t
 | _, [] => rfl
 | n, u :: us => by rw [anyI, anyI_any t (n + 1) us, List.any_cons]
theorem anyI_congr {α : Type} {t v : Nat → α → Bool} : ∀ (n : Nat) (us : List α), (∀ i u, u ∈ us → t i u = v i u) → anyI t n us = anyI v n us
 | _, [], _ => rfl
 | n, u :: us, h => by rw [anyI, anyI, h n u (by simp), anyI_congr (n + 1) us fun i w hw => h i w (by simp [hw])]
theorem find_loop {α : Type} (p : List α) (hp : p.length ≤ big) (t : α → Bool) (L : Nat → Int → Option (Lo Unit Int))
  (h1 : ∀ (k i : Nat) (h : i < p.length), L (k + 1) (i : Int) = if t p[i] = true then some (.ret (i : Int)) else L k (IntKind.i64.wrap ((i : Int) + 1)))
  (h2 : ∀ (k i : Nat), ¬ i < p.length → L (k + 1) (i : Int) = some (.go ())) (n : Nat) (hn : p.length < n) :
  ((L n 0).bind fun o => match o with | .go () => some (-1) | .ret z => some z).bind (fun u => some (decide (u ≥ 0))) = some (p.any t) := by
 have key : ∀ (k i : Nat), i ≤ p.length → p.length - i < k → ((L k (i : Int)).bind fun o => match o with | .go () => some (-1) | .ret z => some z).bind (fun u => some (decide (u ≥ 0))) = some ((p.drop i).any t) := by
  intro k
  induction k with
  | zero => intro i _ h; omega
  | succ k ih =>
   intro i hi hk
   by_cases h : i < p.length
   ·rw [h1 k i h, List.drop_eq_getElem_cons h, List.any_cons]
    cases ht : t p[i] with
    | true => simp
    | false =>
     rw [if_neg (by simp), wrapN i (by unfold big at hp; omega), ih (i + 1) h (by omega), Bool.false_or]
   ·rw [h2 k i h, List.drop_eq_nil_of_le (by omega)]
    rfl
 exact key n 0 (by omega) (by omega)
theorem allI_loop {α ρ : Type} (p : List α) (hp : p.length ≤ big) (t : Nat → α → Bool) (c : ρ) (L : Nat → Int → Option (Lo Unit ρ))
  (h1 : ∀ (k i : Nat) (h : i < p.length), L (k + 1) (i : Int) = if t i p[i] = true then some (.ret c) else L k (IntKind.i64.wrap ((i : Int) + 1)))
  (h2 : ∀ (k i : Nat), ¬ i < p.length → L (k + 1) (i : Int) = some (.go ())) (n : Nat) (hn : p.length < n) :
  L n 0 = some (if anyI t 0 p = true then .ret c else .go ()) := by
 have key : ∀ (k i : Nat), i ≤ p.length → p.length - i < k → L k (i : Int) = some (if anyI t i (p.drop i) = true then .ret c else .go ()) := by
  intro k
  induction k with
  | zero => intro i _ h; omega
  | succ k ih =>
   intro i hi hk
   by_cases h : i < p.length
   ·rw [h1 k i h, List.drop_eq_getElem_cons h, anyI]
    cases ht : t i p[i] with
    | true => simp
    | false =>
     rw [if_neg (by simp), wrapN i (by unfold big at hp; omega), ih (i + 1) h (by omega), Bool.false_or]
   ·rw [h2 k i h, List.drop_eq_nil_of_le (by omega)]
    rfl
 exact key n 0 (by omega) (by omega)
theorem bindO {α β : Type} {x : Option α} {f : α → Option β} {a : α} {b : Option β} (h : x = some a) (h2 : f a = b) : x.bind f = b := by subst h; exact h2
/-- The tree of a pattern. -/
def trOf (p : List Nd) : RT := match pileR p 0 [] [] with | some (K, _) => getT (trs p K) ((p.length - 1 : Nat) : Int) | none => .nil
theorem p_find1 {p : List Nd} {l : List Int} (h : okRe p = true) (hl : l.length ≤ 120) : ∃ r : Int × Int × Bool, ((z25.f p l).bind fun u => z27.f u.1 u.2.1 u.2.2.1 u.2.2.2 0 (l.length : Int)) = some r ∧ z2p.f p l = some r ∧ (r.2.2 = true → ∃ a t : Nat, r.1 = a ∧ r.2.1 = t ∧ a ≤ t ∧ t ≤ l.length ∧ acc (trOf p) (seg l a t) = true) := by
 obtain ⟨h1, h2, h3, K, q, h4⟩ := okRe_facts h
 have hset : ∀ u ∈ p, u.2.length ≤ 1000 ∧ u.2.length % 2 = 0 := fun u hu => ⟨by have := h3 u hu; omega, (h3 u hu).2⟩
 obtain ⟨hK, tb, e, e2, e3⟩ := p_match (q := q) (l := l) (by omega) (fun u hu => (hset u hu).1) (by omega) h4
 obtain ⟨rows, r1, r2⟩ := e3 (p.length - 1) (by omega)
 have hf := p_find (p := p) (K := K) ⟨h1, by omega⟩ (by omega) r1 r2 0 (by omega)
 have hs := p_l7 (p := p) (K := K) (l := l) ⟨h1, by omega⟩ hset (by omega) hK
 rw [show ((0 : Nat) : Int) = 0 from rfl, Nat.sub_zero] at hf
 rw [e, hs]
 simp only [Option.bind_some]
 rw [hf]
 have ht : trOf p = getT (trs p K) ((p.length - 1 : Nat) : Int) := by unfold trOf; rw [h4]
 rw [ht]
 refine ⟨_, rfl, ?_, ?_⟩
 ·cases findF (gT (getT (trs p K) ((p.length - 1 : Nat) : Int)) l) (l.length + 1) 0 <;> rfl
 ·cases hF : findF (gT (getT (trs p K) ((p.length - 1 : Nat) : Int)) l) (l.length + 1) 0 with
  | none => intro h; cases h
  | some o =>
   intro _
   obtain ⟨a, t⟩ := o
   have hb := findF_bd hF
   refine ⟨a, t, rfl, rfl, hb.2.1, by omega, ?_⟩
   have key : ∀ (m f : Nat), findF (gT (getT (trs p K) ((p.length - 1 : Nat) : Int)) l) m f = some (a, t) → gT (getT (trs p K) ((p.length - 1 : Nat) : Int)) l a t = true := by
    have kl : ∀ (f : Nat) (m : Nat), longF (gT (getT (trs p K) ((p.length - 1 : Nat) : Int)) l f) f m = some t → gT (getT (trs p K) ((p.length - 1 : Nat) : Int)) l f t = true := by
     intro f m
     induction m with
     | zero => intro h; simp [longF] at h
     | succ m ih =>
      intro h
      rw [longF] at h
      split at h
      ·cases h; assumption
      ·exact ih h
    intro m
    induction m with
    | zero => intro f h; simp [findF] at h
    | succ m ih =>
     intro f h
     rw [findF] at h
     split at h
     ·rename_i t' ht'
      cases h
      exact kl _ _ ht'
     ·exact ih _ h
   exact key _ _ hF
theorem p_first (ps : List (List Nd)) (l : List Int) (hp : ps.length ≤ 1000000) (hok : ∀ p ∈ ps, okRe p = true) (hl : l.length ≤ 120) : ∃ r : Int × Int × Int × Bool, z28.f ps l = some r ∧ z2q.f ps l = some r ∧ (r.2.2.2 = true → ∃ (n a t : Nat) (h : n < ps.length), r.1 = n ∧ r.2.1 = a ∧ r.2.2.1 = t ∧ a ≤ t ∧ t ≤ l.length ∧ acc (trOf ps[n]) (seg l a t) = true) := by
 have key : ∀ (k i : Nat) (fd : Bool) (n f t : Int), i ≤ ps.length → ps.length - i < k → (fd = false → n = 0 ∧ f = 0 ∧ t = 0) → (fd = true → ∃ (n' a t' : Nat) (h : n' < ps.length), n = n' ∧ f = a ∧ t = t' ∧ a ≤ t' ∧ t' ≤ l.length ∧ acc (trOf ps[n']) (seg l a t') = true) →
   ∃ (fd' : Bool) (n' f' t' : Int), z28.l1 ps l k fd i n f t = some (fd', n', f', t') ∧ z2q.l1 ps l k i (if fd then n else -1) f t = some (if fd' then n' else -1, f', t') ∧ (fd' = false → n' = 0 ∧ f' = 0 ∧ t' = 0) ∧ (fd' = true → ∃ (m a t'' : Nat) (h : m < ps.length), n' = m ∧ f' = a ∧ t' = t'' ∧ a ≤ t'' ∧ t'' ≤ l.length ∧ acc (trOf ps[m]) (seg l a t'') = true) := by
  intro k
  induction k with
  | zero => intro i fd n f t _ h; omega
  | succ k ih =>
   intro i fd n f t hi hk hz ho
   rw [z28.l1, z2q.l1]
   by_cases h : i < ps.length
   ·rw [if_pos (by rw [decide_eq_true_eq]; omega), if_pos (by rw [decide_eq_true_eq]; omega), rd?_at h]
    simp only [Option.bind_some]
    obtain ⟨r, e1, e2, e3⟩ := p_find1 (hok _ (List.getElem_mem h)) hl
    obtain ⟨⟨U, V, W, X⟩, m1, m2⟩ : ∃ u, z25.f ps[i] l = some u ∧ z27.f u.1 u.2.1 u.2.2.1 u.2.2.2 0 (l.length : Int) = some r := by
     cases hm : z25.f ps[i] l with
     | none => rw [hm] at e1; cases e1
     | some u => rw [hm] at e1; exact ⟨u, rfl, e1⟩
    rw [m1]
    simp only [Option.bind_some]
    dsimp only at m2
    rw [m2, e2, wrapN i (by omega)]
    simp only [Option.bind_some]
    obtain ⟨ra, rt, rb⟩ := r
    dsimp only at e3 ⊢
    cases rb with
    | false =>
     simp only [Bool.false_eq_true, if_false, Option.bind_some]
     exact ih (i + 1) fd n f t h (by omega) hz ho
    | true =>
     simp only [if_true]
     obtain ⟨a, t0, rfl, rfl, b1, b2, b3⟩ := e3 rfl
     cases fd with
     | false =>
      simp only [Bool.not_false, if_true, Option.bind_some, Bool.false_eq_true, if_false, show decide ((-1 : Int) < 0) = true from rfl]
      exact ih (i + 1) true (i : Int) a t0 h (by omega) (by intro h; cases h) (fun _ => ⟨i, a, t0, h, rfl, rfl, rfl, b1, b2, b3⟩)
     | true =>
      obtain ⟨n', a', t', hn, rfl, rfl, rfl, c1, c2, c3⟩ := ho rfl
      simp only [Bool.not_true, Bool.false_eq_true, if_false, if_true, show decide ((n' : Int) < 0) = false by rw [decide_eq_false_iff_not]; omega]
      cases hlt : decide ((a : Int) < (a' : Int)) with
      | false =>
       simp only [Option.bind_some, Bool.false_eq_true, if_false]
       exact ih (i + 1) true (n' : Int) a' t' h (by omega) (by intro h; cases h) (fun _ => ⟨n', a', t', hn, rfl, rfl, rfl, c1, c2, c3⟩)
      | true =>
       simp only [Option.bind_some, if_true]
       exact ih (i + 1) true (i : Int) a t0 h (by omega) (by intro h; cases h) (fun _ => ⟨i, a, t0, h, rfl, rfl, rfl, b1, b2, b3⟩)
   ·rw [if_neg (by rw [decide_eq_true_eq]; omega), if_neg (by rw [decide_eq_true_eq]; omega)]
    exact ⟨fd, n, f, t, rfl, rfl, hz, ho⟩
 obtain ⟨fd, n, f, t, e1, e2, hz, ho⟩ := key (((ps.length : Int) - 0).toNat + 2) 0 false 0 0 0 (by omega) (by omega) (fun _ => ⟨rfl, rfl, rfl⟩) (by intro h; cases h)
 unfold z28.f z2q.f
 rw [show ((0 : Nat) : Int) = 0 from rfl] at e1 e2
 rw [e1]
 refine ⟨(n, f, t, fd), rfl, ?_, ho⟩
 refine bindO e2 ?_
 cases fd with
 | false =>
  obtain ⟨rfl, rfl, rfl⟩ := hz rfl
  rfl
 | true =>
  obtain ⟨m, a, t', _, rfl, _⟩ := ho rfl
  dsimp only
  rw [if_pos rfl, if_neg (by rw [decide_eq_true_eq]; omega)]
abbrev Cl := Int × List Nd
def bgC (c : Cl) : Prop := c.2.length ≤ 1000000000 ∧ ∀ u ∈ c.2, u.2.length ≤ 1000000000
def okCl (c : Cl) : Bool := if c.1 = 1 then okRe c.2 else (decide (c.1 = 2) || decide (c.1 = 3)) && decide (c.2.length = 0)
def okCls (l : List Cl) : Bool := l.all okCl && decide ((l.length : Int) ≤ 8)
theorem p_specCls (l : List Cl) (hl : l.length ≤ 1000000000) (hb : ∀ c ∈ l, bgC c) : z2j.f l = some (okCls l) := by
 unfold z2j.f okCls
 rw [allI_loop l (by unfold big; omega) (fun _ c => !okCl c) false (z2j.l1 l) (fun k i h => ?_) (fun k i h => ?_) _ (by omega), anyI_any]
 ·have e : l.all okCl = !l.any fun c => !okCl c := List.all_eq_not_any_not
  rw [e]
  cases l.any fun c => !okCl c with
  | true => simp
  | false => simp
 ·have hc := hb l[i] (List.getElem_mem h)
  rw [z2j.l1, if_pos (by rw [decide_eq_true_eq]; omega), rd?_at h]
  generalize l[i] = c at *
  obtain ⟨c1, c2⟩ := c
  unfold okCl
  simp only [Option.bind_some]
  by_cases h1 : c1 = 1
  ·subst h1
   rw [p_specRe c2 (by have := hc.1; unfold big; dsimp only at this; omega) (fun u hu => by have := hc.2 u hu; unfold big; omega)]
   cases hr : okRe c2 <;> simp [hr]
  ·have f1 : (c1 == 1) = false := by simpa using h1
   by_cases h2 : c1 = 2
   ·subst h2
    cases c2 <;> simp
   ·have f2 : (c1 == 2) = false := by simpa using h2
    by_cases h3 : c1 = 3
    ·subst h3
     cases c2 <;> simp
    ·have f3 : (c1 == 3) = false := by simpa using h3
     simp [f1, f2, f3, h1, h2, h3]
 ·rw [z2j.l1, if_neg (by rw [decide_eq_true_eq]; omega)]
theorem p_awaited1 (c : Cl) (hc : bgC c) : z1r.f c.1 c.2 = some (!okCl c) := by
 obtain ⟨c1, c2⟩ := c
 unfold z1r.f okCl
 dsimp only
 by_cases h1 : c1 = 1
 ·subst h1
  rw [p_implRe c2 (by have := hc.1; unfold big; dsimp only at this; omega) (fun u hu => by have := hc.2 u hu; unfold big; omega)]
  cases hr : okRe c2 <;> simp [hr]
 ·have f1 : (c1 == 1) = false := by simpa using h1
  by_cases h2 : c1 = 2
  ·subst h2
   cases c2 <;> simp
  ·have f2 : (c1 == 2) = false := by simpa using h2
   by_cases h3 : c1 = 3
   ·subst h3
    cases c2 <;> simp
   ·have f3 : (c1 == 3) = false := by simpa using h3
    simp [f1, f2, f3, h1, h2, h3]
theorem p_implCls (l : List Cl) (hl : l.length ≤ 1000000000) (hb : ∀ c ∈ l, bgC c) : z1u.f l = some (okCls l) := by
 unfold z1u.f okCls z1t.f z1s.f
 have e : l.all okCl = !l.any fun c => !okCl c := List.all_eq_not_any_not
 by_cases h8 : (l.length : Int) ≤ 8
 ·have := find_loop l (by unfold big; omega) (fun c => !okCl c) (z1s.l1 l) (fun k i h => by
   rw [z1s.l1, if_pos (by rw [decide_eq_true_eq]; omega), rd?_at h]
   simp only [Option.bind_some, p_awaited1 l[i] (hb _ (List.getElem_mem h))]) (fun k i h => by
   rw [z1s.l1, if_neg (by rw [decide_eq_true_eq]; omega)]) (((l.length : Int) - 0).toNat + 2) (by omega)
  rw [if_pos (by simpa using h8)]
  refine bindO this ?_
  rw [e]
  simp [h8]
 ·rw [if_neg (by simpa using h8)]
  simp [h8]
theorem p_own (x : List Int) (hx : x.length ≤ big) : z00.f x = some x := by
 unfold z00.f
 unfold big at hx
 rw [app?_at (by simpa using hx)]
 rfl
theorem p_clone (x : List Int) (hx : x.length ≤ big) : z1o.f x = some x := by
 unfold z1o.f
 unfold big at hx
 rw [app?_at (by simpa using hx)]
 rfl
theorem cut0 {x : List Int} {n : Nat} (h : n ≤ x.length) : cut? x 0 (n : Int) = some (x.take n) := by
 have := cut?_at (xs := x) (a := 0) (b := n) (by omega) h
 rw [show ((0 : Nat) : Int) = 0 from rfl] at this
 simpa using this
theorem cutE {x : List Int} {n : Nat} (h : n ≤ x.length) : cut? x (n : Int) (x.length : Int) = some (x.drop n) := by
 have := cut?_at (xs := x) (a := n) (b := x.length) h (by omega)
 simpa using this
def addAll (s : Int) (xs : List Int) : Int := xs.foldl (fun s u => IntKind.i64.wrap (s + u)) s
theorem p_bytes (x : List Int) (hx : x.length ≤ big) (g : Int) : z1x.l1 x (((x.length : Int) - 0).toNat + 2) g 0 = some (addAll g x) := by
 have := run_loop x hx (fun s u K => K (IntKind.i64.wrap (s + u))) (fun s => some s) (z1x.l1 x) (fun _ _ _ => rfl) (((x.length : Int) - 0).toNat + 2) 0 g (by omega) (by omega)
 rw [show ((0 : Nat) : Int) = 0 from rfl] at this
 rw [this, List.drop_zero, runS_fold (fun s u => IntKind.i64.wrap (s + u))]
 rfl
theorem p_dropSum (x : List Int) (hx : x.length ≤ big) (g : Int) : z02.l1 x (((x.length : Int) - 0).toNat + 2) 0 g = some (addAll g x) := by
 have := run_loop x hx (fun s u K => K (IntKind.i64.wrap (s + u))) (fun s => some s) (fun k s i => z02.l1 x k i s) (fun _ _ _ => rfl) (((x.length : Int) - 0).toNat + 2) 0 g (by omega) (by omega)
 rw [show ((0 : Nat) : Int) = 0 from rfl] at this
 rw [this, List.drop_zero, runS_fold (fun s u => IntKind.i64.wrap (s + u))]
 rfl
theorem p_drop (m : Int) (rs ls : List Int) (g : Int) (n : Nat) (hn : n ≤ rs.length) (hl : n ≤ ls.length) (h1 : rs.length ≤ big) (h2 : ls.length ≤ big) : z02.f m rs ls g n = some (m, rs.drop n, ls.drop n, addAll g (ls.take n), rs.take n) := by
 unfold z02.f
 rw [cut0 hn, cut0 hl, cutE hn, cutE hl]
 simp only [Option.bind_some]
 rw [p_own _ (by simp; omega), p_own _ (by simp; omega), p_own _ (by simp; omega)]
 simp only [Option.bind_some]
 rw [p_dropSum _ (by simp; omega)]
 rfl
theorem p_specByteL (x : List Int) (hx : x.length ≤ big) (g : Int) : z2k.l1 x (((x.length : Int) - 0).toNat + 2) g 0 = some (addAll g x) := by
 have := run_loop x hx (fun s u K => K (IntKind.i64.wrap (s + u))) (fun s => some s) (z2k.l1 x) (fun _ _ _ => rfl) (((x.length : Int) - 0).toNat + 2) 0 g (by omega) (by omega)
 rw [show ((0 : Nat) : Int) = 0 from rfl] at this
 rw [this, List.drop_zero, runS_fold (fun s u => IntKind.i64.wrap (s + u))]
 rfl
theorem p_areRunes (p : List Int) (n : Int) (hp : p.length ≤ big) : z1a.f p n = some (decide ((p.length : Int) ≤ n) && p.all okRune) := by
 unfold z1a.f z19.f z18.f
 by_cases h : (p.length : Int) ≤ n
 ·rw [if_pos (by simpa using h)]
  have := scan_loop p hp (fun u => !okRune u) (fun i _ => i) (z18.l1 p) (fun k i => by rw [z18.l1]; simp only [z17.f, p_implRune, Option.bind_some]) (((p.length : Int) - 0).toNat + 2) 0 (by omega) (by omega)
  rw [show ((0 : Nat) : Int) = 0 from rfl] at this
  rw [this, List.drop_zero]
  have e : p.all okRune = !(p.any fun u => !okRune u) := List.all_eq_not_any_not
  rw [e]
  cases hf : p.findIdx? (fun u => !okRune u) with
  | none =>
   have : p.any (fun u => !okRune u) = false := by
    rw [List.findIdx?_eq_none_iff] at hf
    simpa using hf
   rw [this]; simp [h]
  | some j =>
   obtain ⟨hj, h1, h2⟩ := List.findIdx?_eq_some_iff_getElem.1 hf
   have : p.any (fun u => !okRune u) = true := List.any_eq_true.2 ⟨_, List.getElem_mem hj, h1⟩
   rw [this]
   simp [hj]
 ·rw [if_neg (by simpa using h)]
  simp [h]
def okLong (u : Int) : Bool := decide (1 ≤ u) && decide (u ≤ 1000)
theorem p_longs (p : List Int) (hp : p.length ≤ big) : z1d.f p = some (!p.all okLong) := by
 unfold z1d.f z1c.f
 have e1 : ∀ u, z1b.f u = some (!okLong u) := fun u => by
  unfold z1b.f okLong
  simp only [p_inRange, Option.bind_some]
 have := scan_loop p hp (fun u => !okLong u) (fun i _ => i) (z1c.l1 p) (fun k i => by rw [z1c.l1]; simp only [e1, Option.bind_some]) (((p.length : Int) - 0).toNat + 2) 0 (by omega) (by omega)
 rw [show ((0 : Nat) : Int) = 0 from rfl] at this
 rw [this, List.drop_zero]
 have e : p.all okLong = !(p.any fun u => !okLong u) := List.all_eq_not_any_not
 rw [e, Bool.not_not]
 cases hf : p.findIdx? (fun u => !okLong u) with
 | none =>
  have : p.any (fun u => !okLong u) = false := by
   rw [List.findIdx?_eq_none_iff] at hf
   simpa using hf
  rw [this]; simp
 | some j =>
  obtain ⟨hj, h1, h2⟩ := List.findIdx?_eq_some_iff_getElem.1 hf
  have : p.any (fun u => !okLong u) = true := List.any_eq_true.2 ⟨_, List.getElem_mem hj, h1⟩
  rw [this]
  simp [hj]
def okBuf (m : Int) (rs ls : List Int) (g : Int) : Bool := (decide (1 ≤ m) && decide (m ≤ 60)) && decide ((rs.length : Int) ≤ m) && rs.all okRune && ((ls.length : Int) == (rs.length : Int)) && ls.all okLong && (decide (0 ≤ g) && decide (g ≤ 1000000))
theorem p_implBuf (m : Int) (rs ls : List Int) (g : Int) (hr : rs.length ≤ big) (hl : ls.length ≤ big) : z1e.f m rs ls g = some (okBuf m rs ls g) := by
 unfold z1e.f okBuf
 simp only [p_inRange, Option.bind_some, p_areRunes rs m hr, p_longs ls hl]
 generalize (decide (1 ≤ m) && decide (m ≤ 60)) = b1
 generalize decide ((rs.length : Int) ≤ m) = b2
 generalize rs.all okRune = b3
 generalize ((ls.length : Int) == (rs.length : Int)) = b4
 generalize ls.all okLong = b5
 generalize (decide (0 ≤ g) && decide (g ≤ 1000000)) = b6
 cases b1 <;> cases b2 <;> cases b3 <;> cases b4 <;> cases b5 <;> cases b6 <;> rfl
theorem p_specBuf (m : Int) (rs ls : List Int) (g : Int) (hr : rs.length ≤ big) (hl : ls.length ≤ big) : zq.f m rs ls g = some (okBuf m rs ls g) := by
 unfold zq.f okBuf
 simp only [p_l1In, Option.bind_some, p_allRunes rs hr, p_l1All ls 1 1000 hl]
 have e : (ls.all fun u => decide (1 ≤ u) && decide (u ≤ 1000)) = ls.all okLong := rfl
 rw [e]
 by_cases h1 : (rs.length : Int) ≤ m ∧ m ≤ 60
 ·have h2 : rs.length ≤ 1000 := by omega
  simp only [h1, h2, decide_true, Bool.and_true]
  generalize decide (1 ≤ m) = b1
  generalize rs.all okRune = b3
  generalize ((ls.length : Int) == (rs.length : Int)) = b4
  generalize ls.all okLong = b5
  generalize (decide (0 ≤ g) && decide (g ≤ 1000000)) = b6
  cases b1 <;> cases b3 <;> cases b4 <;> cases b5 <;> cases b6 <;> rfl
 ·by_cases h2 : m ≤ 60
  ·have h3 : ¬ (rs.length : Int) ≤ m := fun h => h1 ⟨h, h2⟩
   simp only [h2, h3, decide_true, decide_false]
   cases decide (1 ≤ m) <;> simp
  ·simp [h2]
theorem p_kindS (l : List Cl) (hl : l.length ≤ 1000000) (k : Int) : ∃ n : Int, z2b.f l k = some n ∧ z2r.f l k = some n ∧ (n = -1 ∨ ∃ (m : Nat) (h : m < l.length), n = m ∧ l[m].1 = k) := by
 have key : ∀ (q i : Nat), i ≤ l.length → l.length - i < q → ∃ n : Int, ((z2a.l1 l k q i).bind fun (o : Lo Unit Int) => match o with | .go () => some (-1) | .ret z => some z) = some n ∧ ((z2r.l1 l k q i).bind fun (o : Lo Unit Int) => match o with | .go () => some (-1) | .ret z => some z) = some n ∧ (n = -1 ∨ ∃ (m : Nat) (h : m < l.length), n = m ∧ l[m].1 = k) := by
  intro q
  induction q with
  | zero => intro i _ h; omega
  | succ q ih =>
   intro i hi hq
   rw [z2a.l1, z2r.l1]
   by_cases h : i < l.length
   ·rw [if_pos (by rw [decide_eq_true_eq]; omega), if_pos (by rw [decide_eq_true_eq]; omega), rd?_at h]
    unfold z29.f
    simp only [Option.bind_some]
    by_cases hk : (l[i].1 == k) = true
    ·rw [if_pos hk, if_pos hk]
     exact ⟨i, rfl, rfl, .inr ⟨i, h, rfl, by simpa using hk⟩⟩
    ·rw [if_neg hk, if_neg hk, wrapN i (by omega)]
     exact ih (i + 1) h (by omega)
   ·rw [if_neg (by rw [decide_eq_true_eq]; omega), if_neg (by rw [decide_eq_true_eq]; omega)]
    exact ⟨-1, rfl, rfl, .inl rfl⟩
 obtain ⟨n, e1, e2, e3⟩ := key (((l.length : Int) - 0).toNat + 2) 0 (by omega) (by omega)
 rw [show ((0 : Nat) : Int) = 0 from rfl] at e1 e2
 unfold z2b.f z2a.f z2r.f
 exact ⟨n, bindO e1 rfl, e2, e3⟩
/-- Patterns and the numbers of their clauses. -/
def PatsOf (l : List Cl) (ps : List (List Nd)) (ns : List Int) : Prop := ps.length = ns.length ∧ ∀ (j : Nat) (h : j < ps.length), ∃ (m : Nat) (hm : m < l.length), ns[j]? = some (m : Int) ∧ l[m] = (1, ps[j])
theorem p_pats (l : List Cl) (hl : l.length ≤ 1000000) : ∃ (ps : List (List Nd)) (ns : List Int), z2c.l1 l (((l.length : Int) - 0).toNat + 2) [] [] 0 = some (ps, ns) ∧ z2s.l1 l (((l.length : Int) - 0).toNat + 2) [] [] 0 = some (ps, ns) ∧ PatsOf l ps ns ∧ ps.length ≤ l.length := by
 have key : ∀ (k i : Nat) (ps : List (List Nd)) (ns : List Int), i ≤ l.length → l.length - i < k → PatsOf l ps ns → ps.length ≤ i → ∃ (ps' : List (List Nd)) (ns' : List Int), z2c.l1 l k ps ns i = some (ps', ns') ∧ z2s.l1 l k ps ns i = some (ps', ns') ∧ PatsOf l ps' ns' ∧ ps'.length ≤ l.length := by
  intro k
  induction k with
  | zero => intro i ps ns _ h; omega
  | succ k ih =>
   intro i ps ns hi hk hP hl2
   rw [z2c.l1, z2s.l1]
   by_cases h : i < l.length
   ·rw [if_pos (by rw [decide_eq_true_eq]; omega), if_pos (by rw [decide_eq_true_eq]; omega), rd?_at h]
    simp only [Option.bind_some]
    by_cases h1 : (l[i].1 == 1) = true
    ·rw [if_pos h1, app?_at (by simp; omega), app?_at (by have := hP.1; simp; omega)]
     simp only [Option.bind_some]
     rw [wrapN i (by omega)]
     refine ih (i + 1) _ _ h (by omega) ⟨by simp [hP.1], fun j hj => ?_⟩ (by simp; omega)
     rw [List.length_append, List.length_singleton] at hj
     by_cases hj2 : j < ps.length
     ·obtain ⟨m, hm, a, b⟩ := hP.2 j hj2
      refine ⟨m, hm, ?_, ?_⟩
      ·rw [List.getElem?_append_left (by rw [← hP.1]; exact hj2), a]
      ·rw [List.getElem_append_left hj2, b]
     ·obtain rfl : j = ps.length := by omega
      refine ⟨i, h, ?_, ?_⟩
      ·rw [hP.1, List.getElem?_concat_length]
      ·have h1 : l[i].1 = 1 := by simpa using h1
       rw [List.getElem_concat_length (by rfl)]
       exact Prod.ext h1 rfl
    ·rw [if_neg h1]
     simp only [Option.bind_some]
     rw [wrapN i (by omega)]
     exact ih (i + 1) ps ns h (by omega) hP (by omega)
   ·rw [if_neg (by rw [decide_eq_true_eq]; omega), if_neg (by rw [decide_eq_true_eq]; omega)]
    exact ⟨ps, ns, rfl, rfl, hP, by omega⟩
 exact key _ 0 [] [] (by omega) (by omega) ⟨rfl, fun j h => by simp at h⟩ (by simp)
/-- What an answer says of a session's buffer and of clauses. -/
def Said1 (mx : Int) (rs ls : List Int) (go : Int) (eof : Bool) (l : List Cl) (a : Int × Int × Int × List Int × Int) : Prop :=
 a = (-1, 0, 0, [], 0) ∨
 (∃ (m f t : Nat) (h : m < l.length), l[m].1 = 1 ∧ f ≤ t ∧ t ≤ rs.length ∧ a = ((m : Int), (f : Int), (t : Int), seg rs f t, addAll go (ls.take t)) ∧ acc (trOf l[m].2) (seg rs f t) = true) ∨
 (∃ (m : Nat) (h : m < l.length), l[m].1 = 3 ∧ (rs.length : Int) = mx ∧ a = ((m : Int), 0, 0, [], 0)) ∨
 (∃ (m : Nat) (h : m < l.length), l[m].1 = 2 ∧ eof = true ∧ a = ((m : Int), 0, 0, [], 0))
theorem p_expect (en sh lo : Int) (hd : ByteArray) (mx : Int) (rs ls : List Int) (go : Int) (eof : Bool) (l : List Cl) (hr : rs.length ≤ 120) (hls : ls.length = rs.length) (hc : okCls l = true) : ∃ a : Int × Int × Int × List Int × Int, z2c.f en sh lo hd mx rs ls go eof l = some a ∧ z2s.f en sh lo hd mx rs ls go eof l = some a ∧ Said1 mx rs ls go eof l a := by
 unfold okCls at hc
 rw [Bool.and_eq_true, decide_eq_true_eq] at hc
 obtain ⟨hc1, hc2⟩ := hc
 obtain ⟨ps, ns, e1, e2, hP, hPl⟩ := p_pats l (by omega)
 have hok : ∀ p ∈ ps, okRe p = true := by
  intro p hp
  obtain ⟨j, hj, rfl⟩ := List.mem_iff_getElem.1 hp
  obtain ⟨m, hm, _, b⟩ := hP.2 j hj
  have := List.all_eq_true.1 hc1 _ (List.getElem_mem hm)
  rw [b] at this
  unfold okCl at this
  rw [if_pos rfl] at this
  exact this
 obtain ⟨r, f1, f2, f3⟩ := p_first ps rs (by omega) hok hr
 unfold z2c.f z2s.f
 rw [e1, e2]
 simp only [Option.bind_some]
 rw [f1, f2]
 simp only [Option.bind_some]
 cases hb : r.2.2.2 with
 | true =>
  obtain ⟨n, a, t, hn, g1, g2, g3, g4, g5, g6⟩ := f3 hb
  obtain ⟨m, hm, q1, q2⟩ := hP.2 n hn
  rw [if_pos rfl, if_pos rfl, g1, g2, g3]
  have hrd : rd? ns (n : Int) = some (m : Int) := by
   unfold rd?
   rw [if_pos (by omega), Int.toNat_natCast, q1]
  rw [hrd, cut?_at g4 g5]
  simp only [Option.bind_some]
  have hs : ((rs.take t).drop a).length ≤ 120 := by simp; omega
  rw [p_clone _ (by unfold big; omega), p_own _ (by unfold big; omega)]
  simp only [Option.bind_some]
  unfold z1x.f z2k.f
  rw [cut0 (show t ≤ ls.length by omega)]
  simp only [Option.bind_some]
  have hb : (ls.take t).length ≤ big := by unfold big; simp; omega
  rw [p_bytes _ hb, p_specByteL _ hb]
  refine ⟨_, rfl, rfl, .inr (.inl ⟨m, a, t, hm, by rw [q2], g4, g5, rfl, ?_⟩)⟩
  rw [q2]
  exact g6
 | false =>
  rw [if_neg (by simp), if_neg (by simp)]
  obtain ⟨n3, a1, a2, a3⟩ := p_kindS l (by omega) 3
  obtain ⟨n2, b1, b2, b3⟩ := p_kindS l (by omega) 2
  rw [a1, a2, b1, b2]
  simp only [Option.bind_some]
  have last : ∃ a : Int × Int × Int × List Int × Int, ((if decide (n2 ≥ 0) = true then some eof else some false).bind fun (o : Bool) => match o with | x => (if x = true then some (n2, (0 : Int), (0 : Int), ([] : List Int), (0 : Int)) else some (-1, 0, 0, [], 0))) = some a ∧ Said1 mx rs ls go eof l a := by
   rcases b3 with rfl | ⟨m, hm, rfl, hk⟩
   ·exact ⟨_, rfl, .inl rfl⟩
   ·rw [if_pos (by rw [decide_eq_true_eq]; omega)]
    cases he : eof with
    | true => exact ⟨_, rfl, .inr (.inr (.inr ⟨m, hm, hk, rfl, rfl⟩))⟩
    | false => exact ⟨_, rfl, .inl rfl⟩
  rcases a3 with rfl | ⟨m, hm, rfl, hk⟩
  ·obtain ⟨a, k1, k2⟩ := last
   exact ⟨a, k1, k1, k2⟩
  ·rw [if_pos (by rw [decide_eq_true_eq]; omega)]
   simp only [Option.bind_some]
   cases hmx : ((rs.length : Int) == mx) with
   | true => exact ⟨_, rfl, rfl, .inr (.inr (.inl ⟨m, hm, hk, by simpa using hmx, rfl⟩))⟩
   | false =>
    obtain ⟨a, k1, k2⟩ := last
    exact ⟨a, k1, k1, k2⟩
theorem p_most (a b : Int) : z01.f a b = some (max a b) := by
 unfold z01.f
 by_cases h : a > b
 ·rw [if_pos (by simpa using h), Int.max_eq_left (by omega)]
 ·rw [if_neg (by simpa using h), Int.max_eq_right (by omega)]
def over (m : Int) (xs : List Int) : Nat := (max 0 ((xs.length : Int) - m)).toNat
def putOk (m : Int) (rs ls : List Int) (g : Int) (p q : List Int) : Bool := okBuf m rs ls g && decide (p.length = q.length) && decide (p.length ≤ 1000) && q.all okLong && p.all okRune && okBuf m ((rs ++ p).drop (over m (rs ++ p))) ((ls ++ q).drop (over m (rs ++ p))) (addAll g ((ls ++ q).take (over m (rs ++ p))))
def putR (m : Int) (rs ls : List Int) (g : Int) (p q : List Int) : Int × List Int × List Int × Int × List Int × Bool := if putOk m rs ls g p q then (m, (rs ++ p).drop (over m (rs ++ p)), (ls ++ q).drop (over m (rs ++ p)), addAll g ((ls ++ q).take (over m (rs ++ p))), (rs ++ p).take (over m (rs ++ p)), true) else (0, [], [], 0, [], false)
/-- Plain sums. -/
def lsum : List Int → Int
 | [] => 0
 | x :: xs => x + lsum xs
theorem lsum_app : ∀ a b, lsum (a ++ b) = lsum a + lsum b
 | [], b => by simp [lsum]
 | x :: a, b => by simp only [List.cons_append, lsum, lsum_app a b]; omega
theorem lsum_bd : ∀ a : List Int, a.all okLong = true → (a.length : Int) ≤ lsum a ∧ lsum a ≤ 1000 * a.length
 | [], _ => by simp [lsum]
 | x :: a, h => by
  rw [List.all_cons, Bool.and_eq_true] at h
  have ih := lsum_bd a h.2
  have hx := h.1
  simp only [okLong, Bool.and_eq_true, decide_eq_true_eq] at hx
  simp only [lsum, List.length_cons]
  omega
theorem addAll_sum : ∀ (a : List Int) (g : Int), a.all okLong = true → 0 ≤ g → g + 1000 * a.length ≤ 1000000000 → addAll g a = g + lsum a
 | [], g, _, _, _ => by simp [addAll, lsum]
 | x :: a, g, h, h0, h1 => by
  rw [List.all_cons, Bool.and_eq_true] at h
  have hx := h.1
  simp only [okLong, Bool.and_eq_true, decide_eq_true_eq] at hx
  simp only [List.length_cons] at h1
  show addAll (IntKind.i64.wrap (g + x)) a = _
  rw [yp (by omega) (by omega), addAll_sum a (g + x) h.2 (by omega) (by omega)]
  simp only [lsum]
  omega
theorem addAll_app (g : Int) (a b : List Int) : addAll g (a ++ b) = addAll (addAll g a) b := by simp [addAll]
theorem all_take {t : Int → Bool} {a : List Int} (h : a.all t = true) (n : Nat) : (a.take n).all t = true := by
 rw [List.all_eq_true] at h ⊢
 exact fun x hx => h x (List.mem_of_mem_take hx)
theorem all_drop {t : Int → Bool} {a : List Int} (h : a.all t = true) (n : Nat) : (a.drop n).all t = true := by
 rw [List.all_eq_true] at h ⊢
 exact fun x hx => h x (List.mem_of_mem_drop hx)
theorem over_eq (m : Int) (xs : List Int) (h : 0 ≤ m) : over m xs = xs.length - m.toNat := by unfold over; omega
/-- What comes in two pieces. -/
theorem put_split {m : Int} {rs ls : List Int} {g : Int} {p q : List Int} (h : putOk m rs ls g p q = true) (k : Nat) (hk : k ≤ p.length) :
  putOk m rs ls g (p.take k) (q.take k) = true ∧
  ∀ rs' ls' g' t, putR m rs ls g (p.take k) (q.take k) = (m, rs', ls', g', t, true) → putOk m rs' ls' g' (p.drop k) (q.drop k) = true ∧ putR m rs' ls' g' (p.drop k) (q.drop k) = (m, (putR m rs ls g p q).2.1, (putR m rs ls g p q).2.2.1, (putR m rs ls g p q).2.2.2.1, (putR m rs' ls' g' (p.drop k) (q.drop k)).2.2.2.2.1, true) ∧ t ++ (putR m rs' ls' g' (p.drop k) (q.drop k)).2.2.2.2.1 = (putR m rs ls g p q).2.2.2.2.1 := by
 have hall := h
 unfold putOk at h
 simp only [Bool.and_eq_true, decide_eq_true_eq] at h
 obtain ⟨⟨⟨⟨⟨h1, h2⟩, h3⟩, h4⟩, h5⟩, h6⟩ := h
 have hb := h1
 have hb6 := h6
 simp only [okBuf, Bool.and_eq_true, decide_eq_true_eq, beq_iff_eq] at h1 h6
 obtain ⟨⟨⟨⟨⟨a1, a2⟩, a3⟩, a4⟩, a5⟩, a6⟩ := h1
 obtain ⟨⟨⟨⟨⟨c1, c2⟩, c3⟩, c4⟩, c5⟩, c6⟩ := h6
 obtain ⟨M, rfl⟩ := Int.eq_ofNat_of_zero_le (show 0 ≤ m by omega)
 have hls : ls.length = rs.length := by omega
 have e0 : over (M : Int) (rs ++ p) = rs.length + p.length - M := by rw [over_eq _ _ (by omega)]; simp
 have e1 : over (M : Int) (rs ++ p.take k) = rs.length + k - M := by rw [over_eq _ _ (by omega)]; simp; omega
 have hsplit1 : rs ++ p = rs ++ p.take k ++ p.drop k := by rw [List.append_assoc, List.take_append_drop]
 have hsplit2 : ls ++ q = ls ++ q.take k ++ q.drop k := by rw [List.append_assoc, List.take_append_drop]
 have hq4 : (ls ++ q).all okLong = true := by rw [List.all_append, a5, h4]; rfl
 have hq5 : (rs ++ p).all okRune = true := by rw [List.all_append, a3, h5]; rfl
 have hlt1 : (rs ++ p.take k).length = rs.length + k := by simp; omega
 have hlt2 : (ls ++ q.take k).length = rs.length + k := by simp; omega
 have t1 : (ls ++ q.take k).take (rs.length + k - M) = (ls ++ q).take (rs.length + k - M) := by rw [hsplit2, List.take_append_of_le_length (l₁ := ls ++ q.take k) (by omega)]
 have s1 : (ls ++ q).take (rs.length + p.length - M) = (ls ++ q).take (rs.length + k - M) ++ ((ls ++ q).drop (rs.length + k - M)).take ((rs.length + p.length - M) - (rs.length + k - M)) := by
  have : rs.length + p.length - M = (rs.length + k - M) + ((rs.length + p.length - M) - (rs.length + k - M)) := by omega
  rw [this, List.take_add]
  congr 2
  omega
 have g1 := addAll_sum ((ls ++ q).take (rs.length + k - M)) g (all_take hq4 _) (by omega) (by simp; omega)
 have g2 := addAll_sum ((ls ++ q).take (rs.length + p.length - M)) g (all_take hq4 _) (by omega) (by simp; omega)
 have g3 := (lsum_bd ((ls ++ q).take (rs.length + k - M)) (all_take hq4 _)).1
 have g4 := (lsum_bd (((ls ++ q).drop (rs.length + k - M)).take ((rs.length + p.length - M) - (rs.length + k - M))) (all_take (all_drop hq4 _) _)).1
 have g5 : lsum ((ls ++ q).take (rs.length + p.length - M)) = lsum ((ls ++ q).take (rs.length + k - M)) + lsum (((ls ++ q).drop (rs.length + k - M)).take ((rs.length + p.length - M) - (rs.length + k - M))) := by rw [← lsum_app, ← s1]
 rw [e0] at c6
 have hq1 : (q.take k).all okLong = true := all_take h4 _
 have hp1 : (p.take k).all okRune = true := all_take h5 _
 have dl1 : ((rs ++ p.take k).drop (rs.length + k - M)).length = rs.length + k - (rs.length + k - M) := by rw [List.length_drop, hlt1]
 have dl2 : ((ls ++ q.take k).drop (rs.length + k - M)).length = rs.length + k - (rs.length + k - M) := by rw [List.length_drop, hlt2]
 have ok1 : putOk (M : Int) rs ls g (p.take k) (q.take k) = true := by
  unfold putOk
  rw [e1, t1, hb, hq1, hp1]
  simp only [Bool.true_and, Bool.and_true, Bool.and_eq_true, decide_eq_true_eq]
  refine ⟨⟨by simp; omega, by simp; omega⟩, ?_⟩
  simp only [okBuf, Bool.and_eq_true, decide_eq_true_eq, beq_iff_eq]
  refine ⟨⟨⟨⟨⟨a1, by rw [dl1]; omega⟩, ?_⟩, by rw [dl1, dl2]⟩, ?_⟩, ?_⟩
  ·refine all_drop ?_ _
   rw [List.all_append, a3, hp1]; rfl
  ·refine all_drop ?_ _
   rw [List.all_append, a5, hq1]; rfl
  ·rw [g1]; omega
 refine ⟨ok1, ?_⟩
 intro rs' ls' g' t hR
 unfold putR at hR
 rw [if_pos ok1, e1, t1] at hR
 simp only [Prod.mk.injEq, true_and, and_true] at hR
 obtain ⟨rfl, rfl, rfl, rfl⟩ := hR
 have m1 : (rs ++ p.take k).drop (rs.length + k - M) ++ p.drop k = (rs ++ p).drop (rs.length + k - M) := by rw [hsplit1, List.drop_append_of_le_length (l₁ := rs ++ p.take k) (by omega)]
 have m2 : (ls ++ q.take k).drop (rs.length + k - M) ++ q.drop k = (ls ++ q).drop (rs.length + k - M) := by rw [hsplit2, List.drop_append_of_le_length (l₁ := ls ++ q.take k) (by omega)]
 have e2 : over (M : Int) ((rs ++ p).drop (rs.length + k - M)) = rs.length + p.length - (rs.length + k - M) - M := by rw [over_eq _ _ (by omega)]; simp
 have e3 : (rs.length + k - M) + (rs.length + p.length - (rs.length + k - M) - M) = rs.length + p.length - M := by omega
 have hgs : addAll (addAll g ((ls ++ q).take (rs.length + k - M))) (((ls ++ q).drop (rs.length + k - M)).take (rs.length + p.length - (rs.length + k - M) - M)) = addAll g ((ls ++ q).take (rs.length + p.length - M)) := by
  rw [← addAll_app, s1]
  congr 3
  omega
 have ok2 : putOk (M : Int) ((rs ++ p.take k).drop (rs.length + k - M)) ((ls ++ q.take k).drop (rs.length + k - M)) (addAll g ((ls ++ q).take (rs.length + k - M))) (p.drop k) (q.drop k) = true := by
  have hb1 := ok1
  unfold putOk at hb1
  rw [e1, t1] at hb1
  simp only [Bool.and_eq_true] at hb1
  unfold putOk
  rw [m1, m2, e2, hb1.2, all_drop h4, all_drop h5, hgs, List.drop_drop, List.drop_drop, e3]
  rw [e0] at hb6
  rw [hb6]
  simp only [Bool.true_and, Bool.and_true, Bool.and_eq_true, decide_eq_true_eq]
  exact ⟨by simp; omega, by simp; omega⟩
 refine ⟨ok2, ?_, ?_⟩
 ·unfold putR
  rw [if_pos ok2, if_pos hall, m1, m2, e2, e0, hgs, List.drop_drop, List.drop_drop, e3]
 ·unfold putR
  rw [if_pos ok2, if_pos hall, m1, e2, e0]
  show _ ++ _ = _
  rw [hsplit1, ← List.take_append_of_le_length (l₁ := rs ++ p.take k) (l₂ := p.drop k) (by omega)]
  rw [← List.take_add, e3]
theorem p_takeS (a b c : Int) (d : ByteArray) (e : Bool) (m : Int) (rs ls : List Int) (g : Int) (n : Nat) (hn : n ≤ rs.length) (hl : n ≤ ls.length) (h1 : rs.length ≤ big) (h2 : ls.length ≤ big) : z2d.f a b c d m rs ls g e n = some (rs.take n, rs.drop n, ls.drop n, addAll g (ls.take n)) := by
 unfold z2d.f z1x.f
 rw [cut0 hn, cut0 hl, cutE hn, cutE hl]
 simp only [Option.bind_some]
 rw [p_clone _ (by simp; omega), p_bytes _ (by simp; omega), p_clone _ (by simp; omega), p_clone _ (by simp; omega)]
 rfl
theorem p_l10PutS (m : Int) (rs ls : List Int) (g : Int) (p q : List Int) (h0 : 0 ≤ m) (hm : m ≤ 1000) (h1 : rs.length + p.length ≤ big) (h2 : rs.length = ls.length) (h3 : p.length = q.length) :
  z03.f m rs ls g p q = some (m, (rs ++ p).drop (over m (rs ++ p)), (ls ++ q).drop (over m (rs ++ p)), addAll g ((ls ++ q).take (over m (rs ++ p))), (rs ++ p).take (over m (rs ++ p))) := by
 have hw : IntKind.i64.wrap (((rs ++ p).length : Int) - m) = ((rs ++ p).length : Int) - m := by
  unfold big at h1
  exact yp (by simp; omega) (by simp; omega)
 have hk : max 0 (((rs ++ p).length : Int) - m) = ((over m (rs ++ p) : Nat) : Int) := by unfold over; omega
 have hk1 : over m (rs ++ p) ≤ (rs ++ p).length := by unfold over; omega
 have hk2 : over m (rs ++ p) ≤ (ls ++ q).length := by rw [List.length_append, ← h2, ← h3, ← List.length_append]; exact hk1
 have b1 : (rs ++ p).length ≤ big := by simpa using h1
 have b2 : (ls ++ q).length ≤ big := by simp; omega
 unfold z03.f
 rw [p_own rs (by omega), p_own ls (by omega)]
 have a1 : app? 17592186044416 rs p = some (rs ++ p) := app?_at (by unfold big at h1; omega)
 have a2 : app? 17592186044416 ls q = some (ls ++ q) := app?_at (by unfold big at h1; omega)
 simp only [Option.bind_some, a1, a2, p_most]
 rw [hw, hk, p_drop m _ _ g _ hk1 hk2 b1 b2]
 rfl
theorem p_PutBufS (m : Int) (rs ls : List Int) (g : Int) (p q : List Int) (hr : rs.length ≤ big) (hl : ls.length ≤ big) (hp : p.length ≤ big) (hq : q.length ≤ big) : z04.f m rs ls g p q = some (putR m rs ls g p q) := by
 unfold z04.f putR putOk
 have e : (q.all fun u => decide (1 ≤ u) && decide (u ≤ 1000)) = q.all okLong := rfl
 simp only [p_specBuf m rs ls g hr hl, Option.bind_some, p_allRunes p hp, p_l1All q 1 1000 hq, e]
 cases hs : okBuf m rs ls g with
 | false => rfl
 | true =>
  simp only [Bool.not_true, Bool.false_eq_true, if_false, Bool.true_and]
  by_cases h1 : p.length = q.length
  ·have n3 : ((q.length : Int) != (p.length : Int)) = false := by simp [h1]
   have d1 : decide (p.length = q.length) = true := by simpa using h1
   by_cases h2 : p.length ≤ 1000
   ·have d3 : decide (p.length ≤ 1000) = true := by simpa using h2
    cases h3 : q.all okLong with
    | false =>
     simp only [n3, Bool.false_eq_true, if_false, Bool.not_false, Option.bind_some, if_true, Bool.and_false, Bool.false_and]
     split <;> rfl
    | true =>
     simp only [n3, Bool.false_eq_true, if_false, Bool.not_true, Option.bind_some, if_true]
     simp only [okBuf, Bool.and_eq_true, decide_eq_true_eq, beq_iff_eq] at hs
     have hrs : rs.length ≤ 60 := by omega
     have g2 := p_l10PutS m rs ls g p q (by omega) (by omega) (by unfold big; omega) (by omega) h1
     rw [d3, d1, Bool.and_true, Bool.true_and]
     have L1 : ((rs ++ p).drop (over m (rs ++ p))).length ≤ 2000 := by simp; omega
     have L2 : ((ls ++ q).drop (over m (rs ++ p))).length ≤ 2000 := by simp; omega
     cases h4 : p.all okRune with
     | false => rfl
     | true =>
      simp only [Bool.not_true, Bool.false_eq_true, if_false, Option.bind_some]
      rw [g2]
      simp only [Option.bind_some]
      rw [p_specBuf _ _ _ _ (by unfold big; omega) (by unfold big; omega)]
      simp only [Option.bind_some]
      cases okBuf m ((rs ++ p).drop (over m (rs ++ p))) ((ls ++ q).drop (over m (rs ++ p))) (addAll g ((ls ++ q).take (over m (rs ++ p)))) <;> first | rfl | trivial
   ·have d3 : decide (p.length ≤ 1000) = false := by simpa using h2
    simp [d3]
  ·have n3 : ((q.length : Int) != (p.length : Int)) = true := by simp; omega
   have d1 : decide (p.length = q.length) = false := by simpa using h1
   rw [n3, d1]
   split <;> rfl
/-- The bytes of a rune. -/
def u8s (r : Int) : List Int := if r < 128 then [r] else if r < 2048 then [192 + r / 64, 128 + r % 64] else if r < 65536 then [224 + r / 4096, 128 + r / 64 % 64, 128 + r % 64] else [240 + r / 262144, 128 + r / 4096 % 64, 128 + r / 64 % 64, 128 + r % 64]
theorem u8s_len (r : Int) : (u8s r).length ≤ 4 := by
 unfold u8s
 split
 ·simp
 ·split
  ·simp
  ·split <;> simp
theorem bytes_text : ∀ (xs : List Int), (∀ u ∈ xs, 0 ≤ u ∧ u < 256) → yd (textB xs) = xs := by
 have key : ∀ (xs : List Int) (s : ByteArray), (∀ u ∈ xs, 0 ≤ u ∧ u < 256) → yd (xs.foldl (fun s n => s.push (UInt8.ofNat n.toNat)) s) = yd s ++ xs := by
  intro xs
  induction xs with
  | nil => intro s _; simp
  | cons x xs ih =>
   intro s h
   obtain ⟨h0, h1⟩ := h x (by simp)
   rw [List.foldl_cons, ih _ fun v hv => h v (List.mem_cons_of_mem _ hv)]
   have e : yd (s.push (UInt8.ofNat x.toNat)) = yd s ++ [x] := by
    unfold yd
    simp [ByteArray.push]
    omega
   rw [e, List.append_assoc]
   rfl
 intro xs h
 unfold textB
 rw [key xs _ h]
 rfl
theorem quo_pos {r n : Int} (h0 : 0 ≤ r) (h1 : r ≤ 2000000) (hn : 1 ≤ n) (hn2 : n ≤ 1000000) : quo? .i64 r n = some (r / n) := by
 unfold quo?
 have h2 : r / n ≤ r := Int.ediv_le_self _ h0
 have h3 : 0 ≤ r / n := Int.ediv_nonneg h0 (by omega)
 rw [if_neg (by omega), Int.tdiv_eq_ediv_of_nonneg h0, yp (by omega) (by omega)]
theorem rem_pos {r n : Int} (h0 : 0 ≤ r) (hn : 1 ≤ n) : rem? r n = some (r % n) := by
 unfold rem?
 rw [if_neg (by omega), Int.tmod_eq_emod_of_nonneg h0]
theorem w8 {n : Int} (h0 : 0 ≤ n) (h1 : n ≤ 255) : IntKind.u8.wrap n = n := by rw [IntKind.wrap_u8]; omega
theorem u8s_in {r : Int} (h0 : 0 ≤ r) (h1 : r ≤ 1114111) : ∀ u ∈ u8s r, 0 ≤ u ∧ u < 256 := by
 unfold u8s
 intro u hu
 split at hu
 ·simp at hu; omega
 ·split at hu
  ·simp at hu; omega
  ·split at hu
   ·simp at hu; omega
   ·simp at hu; omega
theorem p_l1Utf8 (r : Int) (h0 : 0 ≤ r) (h1 : r ≤ 1114111) : zh.f r = some (textB (u8s r)) := by
 unfold zh.f u8s
 simp only [quo_pos (r := r) h0 (by omega) (show (1 : Int) ≤ 64 by omega) (by omega), quo_pos (r := r) h0 (by omega) (show (1 : Int) ≤ 4096 by omega) (by omega), quo_pos (r := r) h0 (by omega) (show (1 : Int) ≤ 262144 by omega) (by omega), rem_pos (r := r) h0 (show (1 : Int) ≤ 64 by omega), rem_pos (r := r / 64) (n := 64) (by omega) (by omega), rem_pos (r := r / 4096) (n := 64) (by omega) (by omega), Option.bind_some]
 by_cases c1 : r < 128
 ·rw [if_pos (by simpa using c1), if_pos c1, w8 (by omega) (by omega)]
 ·rw [if_neg (by simpa using c1), if_neg c1]
  by_cases c2 : r < 2048
  ·rw [if_pos (by simpa using c2), if_pos c2, yp (n := 192 + r / 64) (by omega) (by omega), yp (n := 128 + r % 64) (by omega) (by omega), w8 (n := 192 + r / 64) (by omega) (by omega), w8 (n := 128 + r % 64) (by omega) (by omega)]
  ·rw [if_neg (by simpa using c2), if_neg c2]
   by_cases c3 : r < 65536
   ·rw [if_pos (by simpa using c3), if_pos c3, yp (n := 224 + r / 4096) (by omega) (by omega), yp (n := 128 + r / 64 % 64) (by omega) (by omega), yp (n := 128 + r % 64) (by omega) (by omega), w8 (n := 224 + r / 4096) (by omega) (by omega), w8 (n := 128 + r / 64 % 64) (by omega) (by omega), w8 (n := 128 + r % 64) (by omega) (by omega)]
   ·rw [if_neg (by simpa using c3), if_neg c3, yp (n := 240 + r / 262144) (by omega) (by omega), yp (n := 128 + r / 4096 % 64) (by omega) (by omega), yp (n := 128 + r / 64 % 64) (by omega) (by omega), yp (n := 128 + r % 64) (by omega) (by omega), w8 (n := 240 + r / 262144) (by omega) (by omega), w8 (n := 128 + r / 4096 % 64) (by omega) (by omega), w8 (n := 128 + r / 64 % 64) (by omega) (by omega), w8 (n := 128 + r % 64) (by omega) (by omega)]
theorem b_and63 (n : Int) (h0 : 0 ≤ n) (h1 : n < 256) : bits .and .u8 n 63 = n % 64 := by
 obtain ⟨k, rfl⟩ := Int.eq_ofNat_of_zero_le h0
 have : ∀ k : Nat, k < 256 → bits .and .u8 (k : Int) 63 = (k : Int) % 64 := by decide +kernel
 exact this k (by omega)
theorem b_or128 (n : Int) (h0 : 0 ≤ n) (h1 : n < 64) : bits .or .u8 128 n = 128 + n := by
 obtain ⟨k, rfl⟩ := Int.eq_ofNat_of_zero_le h0
 have : ∀ k : Nat, k < 64 → bits .or .u8 128 (k : Int) = 128 + (k : Int) := by decide +kernel
 exact this k (by omega)
theorem b_or192 (n : Int) (h0 : 0 ≤ n) (h1 : n < 32) : bits .or .u8 192 n = 192 + n := by
 obtain ⟨k, rfl⟩ := Int.eq_ofNat_of_zero_le h0
 have : ∀ k : Nat, k < 32 → bits .or .u8 192 (k : Int) = 192 + (k : Int) := by decide +kernel
 exact this k (by omega)
theorem b_or224 (n : Int) (h0 : 0 ≤ n) (h1 : n < 16) : bits .or .u8 224 n = 224 + n := by
 obtain ⟨k, rfl⟩ := Int.eq_ofNat_of_zero_le h0
 have : ∀ k : Nat, k < 16 → bits .or .u8 224 (k : Int) = 224 + (k : Int) := by decide +kernel
 exact this k (by omega)
theorem b_or240 (n : Int) (h0 : 0 ≤ n) (h1 : n < 8) : bits .or .u8 240 n = 240 + n := by
 obtain ⟨k, rfl⟩ := Int.eq_ofNat_of_zero_le h0
 have : ∀ k : Nat, k < 8 → bits .or .u8 240 (k : Int) = 240 + (k : Int) := by decide +kernel
 exact this k (by omega)
theorem b_cont (q : Int) : bits .or .u8 128 (bits .and .u8 (IntKind.u8.wrap q) 63) = 128 + q % 64 := by
 have e : IntKind.u8.wrap q = q % 256 := by rw [IntKind.wrap_u8]
 rw [e, b_and63 _ (by omega) (by omega), b_or128 _ (by omega) (by omega)]
 omega
theorem shr32 (r : Int) (k : Nat) (hk : k ≤ 20) : shrK? .i32 r (k : Int) = some (r / 2 ^ k) := by
 unfold shrK?
 have e : min ((k : Int)).toNat IntKind.i32.bits = k := by
  have : IntKind.i32.bits = 32 := rfl
  rw [this]
  omega
 rw [if_pos (by omega), e, Int.fdiv_eq_ediv_of_nonneg _ (by exact Int.pow_nonneg (by omega))]
theorem baT (b : ByteArray) : b.toList = b.data.toList := by
 have key : ∀ (k i : Nat) (r : List UInt8), b.size - i ≤ k → ByteArray.toList.loop b i r = r.reverse ++ b.data.toList.drop i := by
  intro k
  induction k with
  | zero =>
   intro i r h
   rw [ByteArray.toList.loop]
   rw [if_neg (by omega)]
   rw [List.drop_of_length_le (by simp; have : b.data.size = b.size := rfl; omega)]
   simp
  | succ k ih =>
   intro i r h
   rw [ByteArray.toList.loop]
   by_cases hi : i < b.size
   ·rw [if_pos hi, ih (i+1) _ (by omega)]
    have hs : i < b.data.toList.length := by simpa using hi
    rw [List.drop_eq_getElem_cons hs]
    have e : b.get! i = b.data.toList[i] := by
     have h2 : i < b.data.size := hi
     show b.data[i]! = _
     rw [getElem!_pos b.data i h2]
     simp
    simp [e]
   ·rw [if_neg hi, List.drop_of_length_le (by simp; have : b.data.size = b.size := rfl; omega)]
    simp
 have := key b.size 0 [] (by omega)
 simpa [ByteArray.toList] using this
theorem baInj {a b : ByteArray} : (a.toList == b.toList) = decide (a = b) := by
 rw [baT, baT, Bool.eq_iff_iff]
 simp only [beq_iff_eq, decide_eq_true_eq]
 constructor
 ·intro h
  obtain ⟨⟨x⟩⟩ := a
  obtain ⟨⟨y⟩⟩ := b
  simp at h
  rw [h]
 ·rintro rfl; rfl
theorem rdS_at (S : ByteArray) (i : Nat) : rdS? S (i : Int) = (yd S)[i]? := by
 unfold rdS? yd
 rw [if_pos (by omega), List.getElem?_map, Array.getElem?_toList]
 rfl
theorem bytesB_inj {a b : ByteArray} (h : yd a = yd b) : a = b := by
 obtain ⟨⟨x⟩⟩ := a
 obtain ⟨⟨y⟩⟩ := b
 unfold yd at h
 have h2 : x = y := by
  have key : ∀ x y : List UInt8, x.map (fun b : UInt8 => (b.toNat : Int)) = y.map (fun b : UInt8 => (b.toNat : Int)) → x = y := by
   intro x
   induction x with
   | nil => intro y h; cases y with
    | nil => rfl
    | cons _ _ => cases h
   | cons u x ih =>
    intro y h
    cases y with
    | nil => cases h
    | cons v y =>
     simp only [List.map_cons, List.cons.injEq] at h
     have : u = v := UInt8.toNat_inj.1 (by omega)
     rw [this, ih y h.2]
  exact key x y h
 rw [h2]
theorem strB (a b : ByteArray) : (a.toList == b.toList) = decide (yd a = yd b) := by
 rw [baInj, Bool.eq_iff_iff]
 simp only [decide_eq_true_eq]
 exact ⟨fun h => by rw [h], bytesB_inj⟩
theorem bytes_rng (S : ByteArray) : ∀ u ∈ yd S, 0 ≤ u ∧ u < 256 := by
 unfold yd
 intro u hu
 obtain ⟨b, _, rfl⟩ := List.mem_map.1 hu
 have := b.toNat_lt
 omega
theorem bytes_nil : yd (⟨#[]⟩ : ByteArray) = [] := rfl
theorem size_bytes (S : ByteArray) : S.size = (yd S).length := (bytesB_len S).symm
theorem cutS_at (S : ByteArray) {a b : Nat} (h1 : a ≤ b) (h2 : b ≤ S.size) : ∃ T, cutS? S (a : Int) (b : Int) = some T ∧ yd T = ((yd S).take b).drop a := by
 unfold cutS?
 rw [if_pos ⟨by omega, by omega, by omega⟩]
 refine ⟨_, rfl, ?_⟩
 unfold yd
 simp [ByteArray.data_extract, List.extract_eq_take_drop, List.map_drop, List.map_take, List.drop_take]
theorem cat_at {n : Nat} {a b : ByteArray} (h : a.size + b.size ≤ n) : ∃ c, cat? n a b = some c ∧ yd c = yd a ++ yd b := by
 unfold cat?
 rw [if_pos h]
 refine ⟨_, rfl, ?_⟩
 unfold yd
 simp
/-- How many bytes a rune has that begins with a byte, as Go's table tells it; the bounds of the second. -/
def u8n (a : Int) : Int := if 194 ≤ a ∧ a ≤ 223 then 2 else if 224 ≤ a ∧ a ≤ 239 then 3 else if 240 ≤ a ∧ a ≤ 244 then 4 else if a < 128 then 0 else 1
def u8lo (a : Int) : Int := if a = 224 then 160 else if a = 240 then 144 else 128
def u8hi (a : Int) : Int := if a = 237 then 159 else if a = 244 then 143 else 191
def cont (a : Int) : Prop := 128 ≤ a ∧ a ≤ 191
def sndOk (a b : Int) : Prop := u8lo a ≤ b ∧ b ≤ u8hi a
instance (a : Int) : Decidable (cont a) := by unfold cont; infer_instance
instance (a b : Int) : Decidable (sndOk a b) := by unfold sndOk; infer_instance
def tabChk (a : Nat) : Bool := match rd? u8First (a : Int) with
 | some v => decide (IntKind.i64.wrap (bits .and .u8 v 7) = u8n a) && (decide (u8n a < 2) || (match shrK? .u8 v 4 with
  | some k => decide (rd? u8Accept k = some (u8lo a, u8hi a))
  | none => false))
 | none => false
theorem tabAll : ∀ a : Nat, a < 256 → tabChk a = true := by decide +kernel
theorem tab_of {a : Int} (h0 : 0 ≤ a) (h1 : a < 256) : ∃ v, rd? u8First a = some v ∧ IntKind.i64.wrap (bits .and .u8 v 7) = u8n a ∧ (2 ≤ u8n a → ∃ k, shrK? .u8 v 4 = some k ∧ rd? u8Accept k = some (u8lo a, u8hi a)) := by
 obtain ⟨n, rfl⟩ := Int.eq_ofNat_of_zero_le h0
 have := tabAll n (by omega)
 unfold tabChk at this
 cases hv : rd? u8First (n : Int) with
 | none => rw [hv] at this; cases this
 | some v =>
  rw [hv] at this
  simp only [Bool.and_eq_true, Bool.or_eq_true, decide_eq_true_eq] at this
  refine ⟨v, rfl, this.1, fun h2 => ?_⟩
  rcases this.2 with h | h
  ·omega
  ·cases hk : shrK? .u8 v 4 with
   | none => rw [hk] at h; cases h
   | some k =>
    rw [hk] at h
    exact ⟨k, rfl, by simpa using h⟩
/-- A rune that has begun, and has not ended. -/
def begB : List Int → Bool
 | [a] => decide (2 ≤ u8n a)
 | [a, b] => decide (3 ≤ u8n a) && decide (sndOk a b)
 | [a, b, c] => decide (4 ≤ u8n a) && (decide (sndOk a b) && decide (cont c))
 | _ => false
theorem u8n_le (a : Int) : u8n a ≤ 4 := by unfold u8n; repeat' split <;> omega
/-- The rune at the front, and how many bytes it has. -/
def dec (M : List Int) : Int × Int :=
 let a := M.getD 0 0; let b := M.getD 1 0; let c := M.getD 2 0; let d := M.getD 3 0
 if a < 128 then (a, 1)
 else if u8n a = 2 ∧ sndOk a b then ((a - 192) * 64 + (b - 128), 2)
 else if u8n a = 3 ∧ sndOk a b ∧ cont c then ((a - 224) * 4096 + (b - 128) * 64 + (c - 128), 3)
 else if u8n a = 4 ∧ sndOk a b ∧ cont c ∧ cont d then ((a - 240) * 262144 + (b - 128) * 4096 + (c - 128) * 64 + (d - 128), 4)
 else (65533, 1)
def l1L (a : Int) : Int := if a < 128 then 1 else if a < 192 then 0 else if a < 224 then 2 else if a < 240 then 3 else if a < 248 then 4 else 0
theorem p_l1Long (a : Int) : zf.f a = some (l1L a) := by
 unfold zf.f l1L
 repeat' split
 all_goals first | rfl | (simp at *; omega)
theorem u8s_eq {a b c d x : Int} : (u8s x = [a, b] → x < 128 ∨ 128 ≤ x) := fun _ => by omega
theorem l1At_fin (S : ByteArray) (p m : Nat) (x : Int) (hm : p + m ≤ S.size) (hm2 : 2 ≤ m) (hx0 : 0 ≤ x) (hx1 : x ≤ 2097151) (hS : S.size ≤ 4000000000) :
  (((zg.f x).bind fun u108 => if (!u108) = true then (some true) else ((cutS? S p ((p : Int) + (m : Int))).bind fun u110 => (zh.f x).bind fun u111 => some (!(u111.toList == u110.toList)))).bind fun (o : Bool) => (if o = true then (some ((65533 : Int), (1 : Int))) else (some (x, (m : Int))))) = some (if okRune x = true ∧ u8s x = ((yd S).drop p).take m then (x, (m : Int)) else (65533, 1)) := by
 rw [p_specRune]
 simp only [Option.bind_some]
 cases hg : okRune x with
 | false => simp
 | true =>
  have hx2 : x ≤ 1114111 := by
   simp only [okRune, Bool.and_eq_true, decide_eq_true_eq] at hg
   omega
  simp only [Bool.not_true, Bool.false_eq_true, if_false]
  rw [show (p : Int) + (m : Int) = ((p + m : Nat) : Int) by omega]
  obtain ⟨T, t1, t2⟩ := cutS_at S (a := p) (b := p + m) (by omega) hm
  rw [t1]
  simp only [Option.bind_some]
  rw [p_l1Utf8 x hx0 hx2]
  simp only [Option.bind_some]
  rw [strB, t2, bytes_text _ (u8s_in hx0 hx2)]
  have e : List.drop p (List.take (p + m) (yd S)) = ((yd S).drop p).take m := by
   rw [List.drop_take]
   congr 1
   omega
  rw [e]
  by_cases h : u8s x = ((yd S).drop p).take m
  ·simp [h]
  ·simp [h]
theorem l1At_step (S : ByteArray) (p m : Nat) (hS : S.size ≤ 4000000000) (j : Nat) (hj : j < m) (hm4 : m ≤ 4) (hpm : p + m ≤ S.size) (b : Int) (hb : ((yd S).drop p)[j]? = some b) (x : Int) (hx0 : 0 ≤ x) (hx1 : x ≤ 40000) (k : Nat) : zi.l1 S p m (k + 1) x j = zi.l1 S p m k (x * 64 + b % 64) ((j + 1 : Nat) : Int) := by
 have hbr := bytes_rng S b (List.mem_of_mem_drop (List.mem_of_getElem? hb))
 rw [zi.l1, if_pos (by rw [decide_eq_true_eq]; omega), yp (n := (p : Int) + j) (by omega) (by omega), show (p : Int) + (j : Int) = ((p + j : Nat) : Int) by omega, rdS_at]
 rw [List.getElem?_drop] at hb
 rw [hb]
 simp only [Option.bind_some]
 rw [yp (n := b) (by omega) (by omega), rem_pos (by omega) (by omega)]
 simp only [Option.bind_some]
 rw [yp (n := x * 64) (by omega) (by omega), yp (n := x * 64 + b % 64) (by omega) (by omega), wrapN j (by omega)]
theorem l1At_end (S : ByteArray) (p m : Nat) (x : Int) (k : Nat) : zi.l1 S p m (k + 1) x m = some x := by
 rw [zi.l1, if_neg (by simp)]
theorem p_l1At (S : ByteArray) (p : Nat) (hp : p < S.size) (hS : S.size ≤ 4000000000) : zi.f S p = some (dec ((yd S).drop p)) := by
 unfold zi.f
 have hL := size_bytes S
 have hr := bytes_rng S
 have hpl : p < (yd S).length := by omega
 have ha := List.drop_eq_getElem_cons hpl
 generalize hav : (yd S)[p] = a at ha
 have har : 0 ≤ a ∧ a < 256 := by rw [← hav]; exact hr _ (List.getElem_mem hpl)
 have h0 : rdS? S (p : Int) = some a := by rw [rdS_at, List.getElem?_eq_getElem hpl, hav]
 simp only [h0, Option.bind_some, p_l1Long]
 generalize hM : (yd S).drop (p + 1) = R at ha
 have hlen : R.length = S.size - (p + 1) := by rw [← hM, List.length_drop, ← hL]
 have hRr : ∀ u ∈ R, 0 ≤ u ∧ u < 256 := fun u hu => hr u (List.mem_of_mem_drop (by rw [hM]; exact hu))
 rw [yp (n := (p : Int) + l1L a) (by unfold l1L; repeat' split <;> omega) (by unfold l1L; repeat' split <;> omega)]
 by_cases c1 : a < 128
 ·-- one byte
  have e1 : l1L a = 1 := by unfold l1L; rw [if_pos c1]
  rw [e1, ha]
  have d1 : decide ((p : Int) + 1 > (S.size : Int)) = false := by rw [decide_eq_false_iff_not]; omega
  have e2 : dec (a :: R) = (a, 1) := by unfold dec; simp [c1]
  rw [e2]
  have g := p_specRune a
  have hg : okRune a = true := by simp only [okRune, Bool.and_eq_true, decide_eq_true_eq, Bool.not_eq_true', Bool.and_eq_false_iff, decide_eq_false_iff_not]; omega
  obtain ⟨T, t1, t2⟩ := cutS_at S (a := p) (b := p + 1) (by omega) (by omega)
  rw [show ((p + 1 : Nat) : Int) = (p : Int) + 1 by omega] at t1
  have t3 : yd T = [a] := by
   rw [t2, List.drop_take, ha]
   simp
  have u1 : u8s a = [a] := by unfold u8s; rw [if_pos c1]
  simp [d1, zi.l1, g, hg, t1, p_l1Utf8 a (by omega) (by omega), strB, t3, u1, bytes_text [a] (by simp; omega), yp (n := a) (by omega) (by omega)]
 by_cases c0 : l1L a = 0
 ·rw [c0, ha]
  have e2 : dec (a :: R) = (65533, 1) := by
   have : u8n a = 1 := by unfold l1L at c0; unfold u8n; repeat' split at c0 <;> first | omega | (repeat' split <;> omega)
   unfold dec
   simp [c1, this]
  rw [e2]
  simp
 -- more bytes
 obtain ⟨m, hm⟩ : ∃ m : Nat, l1L a = m := ⟨(l1L a).toNat, by unfold l1L at *; repeat' split <;> omega⟩
 have hm2 : 2 ≤ m ∧ m ≤ 4 := by unfold l1L at *; repeat' split at hm <;> omega
 have hne : ((l1L a) == 0) = false := by simpa using c0
 simp only [hne, Bool.false_eq_true, if_false, Option.bind_some]
 rw [hm]
 by_cases hpm : p + m ≤ S.size
 case neg =>
  have d1 : decide ((p : Int) + m > (S.size : Int)) = true := by rw [decide_eq_true_eq]; omega
  simp only [d1, if_true]
  rw [ha]
  congr 1
  symm
  unfold dec
  have hl1 : R.length < m - 1 := by omega
  have g0 : (a :: R).getD 0 0 = a := rfl
  have g1 : (a :: R).getD 1 0 = R.getD 0 0 := rfl
  have g2 : (a :: R).getD 2 0 = R.getD 1 0 := rfl
  have g3 : (a :: R).getD 3 0 = R.getD 2 0 := rfl
  simp only [g0, g1, g2, g3, c1, if_false]
  have z : ∀ i, R.length ≤ i → R.getD i 0 = 0 := fun i hi => by simp [List.getD, List.getElem?_eq_none hi]
  have s0 : ∀ b, b = 0 → ¬ sndOk a b := fun b hb h => by unfold sndOk u8lo at h; repeat' split at h <;> omega
  have s1 : ∀ b, b = 0 → ¬ cont b := fun b hb h => by unfold cont at h; omega
  have hl1L : l1L a = m := hm
  rcases (show m = 2 ∨ m = 3 ∨ m = 4 by omega) with rfl | rfl | rfl
  ·have := s0 _ (z 0 (by omega))
   simp only [this, and_false, false_and, if_false]
  ·have := s1 _ (z 1 (by omega))
   have h2 : u8n a ≠ 2 := by unfold l1L at hl1L; unfold u8n; repeat' split at hl1L <;> first | omega | (repeat' split <;> omega)
   simp only [this, h2, and_false, false_and, if_false]
  ·have := s1 _ (z 2 (by omega))
   have h2 : u8n a ≠ 2 ∧ u8n a ≠ 3 := by unfold l1L at hl1L; unfold u8n; repeat' split at hl1L <;> first | omega | (repeat' split <;> omega)
   simp only [this, h2.1, h2.2, and_false, false_and, if_false]
 have d1 : decide ((p : Int) + m > (S.size : Int)) = false := by rw [decide_eq_false_iff_not]; omega
 have d2 : decide ((m : Int) > 1) = true := by rw [decide_eq_true_eq]; omega
 simp only [d1, d2, Bool.false_eq_true, if_false, if_true]
 rw [yp (n := a) (by omega) (by omega)]
 have hsh : ∃ q, shlK? .i64 1 (IntKind.u64.wrap (IntKind.i64.wrap (7 - (m : Int)))) = some q ∧ q = 2 ^ (7 - m) := by
  rcases (show m = 2 ∨ m = 3 ∨ m = 4 by omega) with rfl | rfl | rfl 
  ·exact ⟨32, by decide +kernel, by decide⟩
  ·exact ⟨16, by decide +kernel, by decide⟩
  ·exact ⟨8, by decide +kernel, by decide⟩
 obtain ⟨q, q1, q2⟩ := hsh
 rw [q1]
 simp only [Option.bind_some]
 have hq : 1 ≤ q := by rcases (show m = 2 ∨ m = 3 ∨ m = 4 by omega) with rfl | rfl | rfl <;> rw [q2] <;> decide
 rw [rem_pos (by omega) hq]
 simp only [Option.bind_some]
 have hMl : (a :: R).length = S.size - p := by simp; omega
 rcases (show m = 2 ∨ m = 3 ∨ m = 4 by omega) with rfl | rfl | rfl
 ·have q3 : q = 32 := by rw [q2]; decide
  subst q3
  match hR : R, hlen with
  | [], hl => simp at hl; omega
  | b :: R', hl =>
   have hb := hRr b (by simp)
   have la : 192 ≤ a ∧ a < 224 := by unfold l1L at hm; repeat' split at hm <;> omega
   have st := l1At_step S p 2 hS 1 (by omega) (by omega) hpm b (by rw [ha]; rfl) (a % 32) (by omega) (by omega) 2
   rw [show (((2 : Nat) : Int) - 1).toNat + 2 = 3 from rfl]
   rw [show ((1 : Nat) : Int) = 1 from rfl] at st
   rw [st]
   rw [show ((1 + 1 : Nat) : Int) = ((2 : Nat) : Int) from rfl, l1At_end]
   simp only [Option.bind_some]
   have fin := l1At_fin S p 2 (a % 32 * 64 + b % 64) hpm (by omega) (by omega) (by omega) hS
   rw [fin, ha]
   congr 1
   have hu : (okRune (a % 32 * 64 + b % 64) = true ∧ u8s (a % 32 * 64 + b % 64) = [a, b]) ↔ (194 ≤ a ∧ cont b) := by
    unfold cont okRune u8s
    simp only [Bool.and_eq_true, decide_eq_true_eq, Bool.not_eq_true', Bool.and_eq_false_iff, decide_eq_false_iff_not]
    constructor
    ·rintro ⟨_, h⟩
     split at h
     ·simp at h
     ·split at h
      ·simp only [List.cons.injEq, and_true] at h; omega
      ·split at h <;> simp at h
    ·rintro ⟨h1, h2⟩
     refine ⟨by omega, ?_⟩
     rw [if_neg (by omega), if_pos (by omega)]
     simp only [List.cons.injEq, and_true]
     omega
   have e3 : List.take 2 (a :: b :: R') = [a, b] := rfl
   rw [e3]
   unfold dec
   have g0 : (a :: b :: R').getD 0 0 = a := rfl
   have g1 : (a :: b :: R').getD 1 0 = b := rfl
   simp only [g0, g1, c1, if_false]
   have hs : (u8n a = 2 ∧ sndOk a b) ↔ (194 ≤ a ∧ cont b) := by
    have : u8lo a = 128 ∧ u8hi a = 191 := by unfold u8lo u8hi; constructor <;> repeat' split <;> omega
    unfold sndOk cont
    rw [this.1, this.2]
    unfold u8n
    constructor
    ·rintro ⟨h, h2⟩
     repeat' split at h <;> first | omega | exact ⟨by omega, h2⟩
    ·rintro ⟨h, h2⟩
     rw [if_pos (by omega)]
     exact ⟨rfl, h2⟩
   by_cases h : 194 ≤ a ∧ cont b
   ·rw [if_pos (hu.2 h), if_pos (hs.2 h)]
    unfold cont at h
    congr 1
    omega
   ·rw [if_neg (fun h' => h (hu.1 h')), if_neg (fun h' => h (hs.1 h'))]
    have n3 : u8n a ≠ 3 ∧ u8n a ≠ 4 := by unfold u8n; repeat' split <;> omega
    simp [n3]
 ·have q3 : q = 16 := by rw [q2]; decide
  subst q3
  match hR : R, hlen with
  | [], hl => simp at hl; omega
  | [b], hl => simp at hl; omega
  | b :: c :: R', hl =>
   have hb := hRr b (by simp)
   have hc := hRr c (by simp)
   have la : 224 ≤ a ∧ a < 240 := by unfold l1L at hm; repeat' split at hm <;> omega
   have st := l1At_step S p 3 hS 1 (by omega) (by omega) hpm b (by rw [ha]; rfl) (a % 16) (by omega) (by omega) 3
   have st2 := l1At_step S p 3 hS 2 (by omega) (by omega) hpm c (by rw [ha]; rfl) (a % 16 * 64 + b % 64) (by omega) (by omega) 2
   rw [show (((3 : Nat) : Int) - 1).toNat + 2 = 4 from rfl]
   rw [show ((1 : Nat) : Int) = 1 from rfl] at st
   rw [st, show ((1 + 1 : Nat) : Int) = ((2 : Nat) : Int) from rfl, st2, show ((2 + 1 : Nat) : Int) = ((3 : Nat) : Int) from rfl, l1At_end]
   simp only [Option.bind_some]
   have fin := l1At_fin S p 3 ((a % 16 * 64 + b % 64) * 64 + c % 64) hpm (by omega) (by omega) (by omega) hS
   rw [fin, ha]
   congr 1
   have hu : (okRune ((a % 16 * 64 + b % 64) * 64 + c % 64) = true ∧ u8s ((a % 16 * 64 + b % 64) * 64 + c % 64) = [a, b, c]) ↔ (sndOk a b ∧ cont c) := by
    unfold sndOk u8lo u8hi cont okRune u8s
    simp only [Bool.and_eq_true, decide_eq_true_eq, Bool.not_eq_true', Bool.and_eq_false_iff, decide_eq_false_iff_not]
    constructor
    ·rintro ⟨_, h⟩
     split at h
     ·simp at h
     ·split at h
      ·simp at h
      ·split at h
       ·simp only [List.cons.injEq, and_true] at h; repeat' split <;> omega
       ·simp at h
    ·rintro ⟨h1, h2⟩
     have h3 : (a = 224 → 160 ≤ b) ∧ (a = 237 → b ≤ 159) ∧ 128 ≤ b ∧ b ≤ 191 := by
      repeat' split at h1 <;> omega
     refine ⟨by omega, ?_⟩
     rw [if_neg (by omega), if_neg (by omega), if_pos (by omega)]
     simp only [List.cons.injEq, and_true]
     omega
   have e3 : List.take 3 (a :: b :: c :: R') = [a, b, c] := rfl
   rw [e3]
   unfold dec
   have g0 : (a :: b :: c :: R').getD 0 0 = a := rfl
   have g1 : (a :: b :: c :: R').getD 1 0 = b := rfl
   have g2 : (a :: b :: c :: R').getD 2 0 = c := rfl
   have n3 : u8n a = 3 := by unfold u8n; rw [if_neg (by omega), if_pos (by omega)]
   simp only [g0, g1, g2, c1, if_false, n3]
   by_cases h : sndOk a b ∧ cont c
   ·rw [if_pos (hu.2 h)]
    have h2 := h
    unfold sndOk u8lo u8hi cont at h2
    simp only [h.1, h.2, and_true, true_and, if_true, show ¬ ((3 : Int) = 2) by decide, false_and, if_false]
    congr 1
    have h3 : 128 ≤ b ∧ b ≤ 191 := by obtain ⟨h1, _⟩ := h2; repeat' split at h1 <;> omega
    omega
   ·rw [if_neg (fun h' => h (hu.1 h'))]
    simp [h]
 ·have q3 : q = 8 := by rw [q2]; decide
  subst q3
  match hR : R, hlen with
  | [], hl => simp at hl; omega
  | [b], hl => simp at hl; omega
  | [b, c], hl => simp at hl; omega
  | b :: c :: d :: R', hl =>
   have hb := hRr b (by simp)
   have hc := hRr c (by simp)
   have hd := hRr d (by simp)
   have la : 240 ≤ a ∧ a < 248 := by unfold l1L at hm; repeat' split at hm <;> omega
   have st := l1At_step S p 4 hS 1 (by omega) (by omega) hpm b (by rw [ha]; rfl) (a % 8) (by omega) (by omega) 4
   have st2 := l1At_step S p 4 hS 2 (by omega) (by omega) hpm c (by rw [ha]; rfl) (a % 8 * 64 + b % 64) (by omega) (by omega) 3
   have st3 := l1At_step S p 4 hS 3 (by omega) (by omega) hpm d (by rw [ha]; rfl) ((a % 8 * 64 + b % 64) * 64 + c % 64) (by omega) (by omega) 2
   rw [show (((4 : Nat) : Int) - 1).toNat + 2 = 5 from rfl]
   rw [show ((1 : Nat) : Int) = 1 from rfl] at st
   rw [st, show ((1 + 1 : Nat) : Int) = ((2 : Nat) : Int) from rfl, st2, show ((2 + 1 : Nat) : Int) = ((3 : Nat) : Int) from rfl, st3, show ((3 + 1 : Nat) : Int) = ((4 : Nat) : Int) from rfl, l1At_end]
   simp only [Option.bind_some]
   have fin := l1At_fin S p 4 (((a % 8 * 64 + b % 64) * 64 + c % 64) * 64 + d % 64) hpm (by omega) (by omega) (by omega) hS
   rw [fin, ha]
   congr 1
   have hu : (okRune (((a % 8 * 64 + b % 64) * 64 + c % 64) * 64 + d % 64) = true ∧ u8s (((a % 8 * 64 + b % 64) * 64 + c % 64) * 64 + d % 64) = [a, b, c, d]) ↔ (a ≤ 244 ∧ sndOk a b ∧ cont c ∧ cont d) := by
    unfold sndOk u8lo u8hi cont okRune u8s
    simp only [Bool.and_eq_true, decide_eq_true_eq, Bool.not_eq_true', Bool.and_eq_false_iff, decide_eq_false_iff_not]
    constructor
    ·rintro ⟨_, h⟩
     split at h
     ·simp at h
     ·split at h
      ·simp at h
      ·split at h
       ·simp at h
       ·simp only [List.cons.injEq, and_true] at h; repeat' split <;> omega
    ·rintro ⟨h0, h1, h2, h4⟩
     have h3 : (a = 240 → 144 ≤ b) ∧ (a = 244 → b ≤ 143) ∧ 128 ≤ b ∧ b ≤ 191 := by
      repeat' split at h1 <;> omega
     refine ⟨by omega, ?_⟩
     rw [if_neg (by omega), if_neg (by omega), if_neg (by omega)]
     simp only [List.cons.injEq, and_true]
     omega
   have e3 : List.take 4 (a :: b :: c :: d :: R') = [a, b, c, d] := rfl
   rw [e3]
   unfold dec
   have g0 : (a :: b :: c :: d :: R').getD 0 0 = a := rfl
   have g1 : (a :: b :: c :: d :: R').getD 1 0 = b := rfl
   have g2 : (a :: b :: c :: d :: R').getD 2 0 = c := rfl
   have g3 : (a :: b :: c :: d :: R').getD 3 0 = d := rfl
   have n3 : (u8n a = 4 ↔ a ≤ 244) ∧ u8n a ≠ 2 ∧ u8n a ≠ 3 := by unfold u8n; rw [if_neg (by omega), if_neg (by omega)]; split <;> omega
   simp only [g0, g1, g2, g3, c1, if_false, n3.1, n3.2.1, n3.2.2, false_and]
   by_cases h : a ≤ 244 ∧ sndOk a b ∧ cont c ∧ cont d
   ·rw [if_pos (hu.2 h), if_pos h]
    have h2 := h
    unfold sndOk u8lo u8hi cont at h2
    congr 1
    have h3 : 128 ≤ b ∧ b ≤ 191 := by obtain ⟨_, h1, _⟩ := h2; repeat' split at h1 <;> omega
    omega
   ·rw [if_neg (fun h' => h (hu.1 h')), if_neg h]
theorem p_full (S : ByteArray) (hne : yd S ≠ []) : z0z.f S = some (!begB (yd S)) := by
 unfold z0z.f
 have hr := bytes_rng S
 have h0 := rdS_at S 0
 have h1 := rdS_at S 1
 have h2 := rdS_at S 2
 rw [show ((0 : Nat) : Int) = 0 from rfl] at h0
 rw [show ((1 : Nat) : Int) = 1 from rfl] at h1
 rw [show ((2 : Nat) : Int) = 2 from rfl] at h2
 have hs := size_bytes S
 generalize yd S = L at *
 rw [h0, hs, h1, h2]
 cases L with
 | nil => exact absurd rfl hne
 | cons a r =>
  obtain ⟨v, v1, v2, v3⟩ := tab_of (hr a (by simp)).1 (hr a (by simp)).2
  rw [if_neg (by simp; omega)]
  simp only [List.getElem?_cons_zero, Option.bind_some, v1, v2]
  have hu := u8n_le a
  by_cases hn : ((a :: r).length : Int) ≥ u8n a
  ·rw [if_pos (by simpa using hn)]
   have e : begB (a :: r) = false := by
    match r, hn with
    | [], hn => simp [begB] at hn ⊢; omega
    | [b], hn => simp [begB] at hn ⊢; omega
    | [b, c], hn => simp [begB] at hn ⊢; omega
    | b :: c :: d :: t, _ => rfl
   rw [e]
   rfl
  ·rw [if_neg (by simpa using hn)]
   obtain ⟨k, k1, k2⟩ := v3 (by simp at hn; omega)
   rw [k1]
   simp only [Option.bind_some, k2]
   match r, hn with
   | [], hn =>
    have : (2 : Int) ≤ u8n a := by simp at hn; omega
    simp [begB, this]
   | [b], hn =>
    have h3 : (3 : Int) ≤ u8n a := by simp at hn; omega
    simp only [List.length_cons, List.length_nil, List.getElem?_cons_succ, List.getElem?_cons_zero, Option.bind_some]
    by_cases g1 : b < u8lo a
    ·have : ¬ sndOk a b := fun h => by unfold sndOk at h; omega
     simp [begB, g1, this]
    ·by_cases g2 : u8hi a < b
     ·have : ¬ sndOk a b := fun h => by unfold sndOk at h; omega
      simp [begB, g1, g2, this]
     ·have : sndOk a b := ⟨by omega, by omega⟩
      simp [begB, g1, g2, this, h3]
   | [b, c], hn =>
    have h3 : (4 : Int) ≤ u8n a := by simp at hn; omega
    simp only [List.length_cons, List.length_nil, List.getElem?_cons_succ, List.getElem?_cons_zero, Option.bind_some]
    by_cases g1 : b < u8lo a
    ·have : ¬ sndOk a b := fun h => by unfold sndOk at h; omega
     simp [begB, g1, this]
    ·by_cases g2 : u8hi a < b
     ·have : ¬ sndOk a b := fun h => by unfold sndOk at h; omega
      simp [begB, g1, g2, this]
     ·have hs2 : sndOk a b := ⟨by omega, by omega⟩
      by_cases g3 : c < 128
      ·have : ¬ cont c := fun h => by unfold cont at h; omega
       simp [begB, g1, g2, g3, this]
      ·by_cases g4 : 191 < c
       ·have : ¬ cont c := fun h => by unfold cont at h; omega
        simp [begB, g1, g2, g3, g4, this]
       ·have : cont c := ⟨by omega, by omega⟩
        simp [begB, g1, g2, g3, g4, this, hs2, h3]
   | b :: c :: d :: t, hn => simp at hn; omega
theorem p_begun (S : ByteArray) : z11.f S = some (begB (yd S)) := by
 unfold z11.f
 rw [strB, bytes_nil]
 by_cases h : yd S = []
 ·simp [h, begB]
 ·rw [p_full S h]
  simp [h]
theorem dec_snd (M : List Int) : 1 < (dec M).2 ↔ 128 ≤ M.getD 0 0 ∧ ((u8n (M.getD 0 0) = 2 ∧ sndOk (M.getD 0 0) (M.getD 1 0)) ∨ (u8n (M.getD 0 0) = 3 ∧ sndOk (M.getD 0 0) (M.getD 1 0) ∧ cont (M.getD 2 0)) ∨ (u8n (M.getD 0 0) = 4 ∧ sndOk (M.getD 0 0) (M.getD 1 0) ∧ cont (M.getD 2 0) ∧ cont (M.getD 3 0))) := by
 unfold dec
 generalize M.getD 0 0 = a
 generalize M.getD 1 0 = b
 generalize M.getD 2 0 = c
 generalize M.getD 3 0 = d
 dsimp only
 by_cases h0 : a < 128
 ·rw [if_pos h0]
  constructor
  ·intro h; simp at h
  ·intro h; omega
 rw [if_neg h0]
 by_cases h1 : u8n a = 2 ∧ sndOk a b
 ·rw [if_pos h1]
  exact ⟨fun _ => ⟨by omega, .inl h1⟩, fun _ => by simp⟩
 rw [if_neg h1]
 by_cases h2 : u8n a = 3 ∧ sndOk a b ∧ cont c
 ·rw [if_pos h2]
  exact ⟨fun _ => ⟨by omega, .inr (.inl h2)⟩, fun _ => by simp⟩
 rw [if_neg h2]
 by_cases h3 : u8n a = 4 ∧ sndOk a b ∧ cont c ∧ cont d
 ·rw [if_pos h3]
  exact ⟨fun _ => ⟨by omega, .inr (.inr h3)⟩, fun _ => by simp⟩
 rw [if_neg h3]
 constructor
 ·intro h; simp at h
 ·rintro ⟨_, h | h | h⟩
  ·exact absurd h h1
  ·exact absurd h h2
  ·exact absurd h h3
theorem p_fill (S : ByteArray) (a : Int) (r : List Int) (hS : yd S = a :: r) (m f : Nat) (hm : l1L a = m) (hm4 : m ≤ 4) (hf : 128 ≤ f) (hf2 : f < 192) : ∀ (k j : Nat) (X : ByteArray), yd X = (a :: r) ++ List.replicate j (f : Int) → (a :: r).length + j ≤ m → m - ((a :: r).length + j) < k → ∃ T, zj.l2 S (f : Int) k X = some T ∧ yd T = (a :: r) ++ List.replicate (m - (a :: r).length) (f : Int) := by
 intro k
 induction k with
 | zero => intro j X _ _ h; omega
 | succ k ih =>
  intro j X hX hj hk
  have hx := size_bytes X
  rw [hX, List.length_append, List.length_replicate] at hx
  rw [zj.l2]
  have h0 := rdS_at S 0
  rw [hS] at h0
  rw [show ((0 : Nat) : Int) = 0 from rfl] at h0
  rw [h0]
  simp only [List.getElem?_cons_zero, Option.bind_some, p_l1Long, hm]
  by_cases hlt : X.size < m
  ·rw [if_pos (by rw [decide_eq_true_eq]; omega), w8 (by omega) (by omega)]
   have hb1 : yd (textB [(f : Int)]) = [(f : Int)] := bytes_text _ (by simp; omega)
   have hz : (textB [(f : Int)]).size = 1 := by rw [size_bytes, hb1]; rfl
   obtain ⟨c, c1, c2⟩ := cat_at (n := 1000000000000) (a := X) (b := textB [(f : Int)]) (by omega)
   rw [c1]
   simp only [Option.bind_some]
   refine ih (j + 1) c ?_ (by omega) (by omega)
   rw [c2, hX, hb1, List.append_assoc, List.replicate_succ']
  ·rw [if_neg (by rw [decide_eq_true_eq]; omega)]
   refine ⟨X, rfl, ?_⟩
   rw [hX]
   congr 2
   omega
theorem p_begLoop (S : ByteArray) (a : Int) (r : List Int) (hS : yd S = a :: r) (m : Nat) (hm : l1L a = m) (hm4 : m ≤ 4) (hn : (a :: r).length ≤ m) : ∀ (k f : Nat), 128 ≤ f → f ≤ 192 → 192 - f < k → ∃ o, zj.l1 S k (f : Int) = some o ∧ ((o = .ret true ∧ ∃ g : Nat, f ≤ g ∧ g < 192 ∧ 1 < (dec ((a :: r) ++ List.replicate (m - (a :: r).length) (g : Int))).2) ∨ (o = .go () ∧ ∀ g : Nat, f ≤ g → g < 192 → ¬ 1 < (dec ((a :: r) ++ List.replicate (m - (a :: r).length) (g : Int))).2)) := by
 intro k
 induction k with
 | zero => intro f _ _ h; omega
 | succ k ih =>
  intro f hf hf2 hk
  rw [zj.l1]
  by_cases hlt : f < 192
  ·rw [if_pos (by rw [decide_eq_true_eq]; omega)]
   obtain ⟨T, t1, t2⟩ := p_fill S a r hS m f hm hm4 hf hlt 8 0 S (by rw [hS]; simp) (by omega) (by omega)
   rw [t1]
   simp only [Option.bind_some]
   have hT := size_bytes T
   rw [t2, List.length_append, List.length_replicate] at hT
   have hl1 : (a :: r).length = r.length + 1 := rfl
   have e := p_l1At T 0 (by omega) (by omega)
   rw [show ((0 : Nat) : Int) = 0 from rfl, t2, List.drop_zero] at e
   rw [e]
   simp only [Option.bind_some]
   by_cases hV : 1 < (dec ((a :: r) ++ List.replicate (m - (a :: r).length) (f : Int))).2
   ·rw [if_pos (by rw [decide_eq_true_eq]; exact hV)]
    exact ⟨_, rfl, .inl ⟨rfl, f, Nat.le_refl _, hlt, hV⟩⟩
   ·rw [if_neg (by rw [decide_eq_true_eq]; exact hV)]
    simp only [Option.bind_some]
    rw [wrapN f (by omega)]
    obtain ⟨o, o1, o2⟩ := ih (f + 1) (by omega) (by omega) (by omega)
    refine ⟨o, o1, ?_⟩
    rcases o2 with ⟨p1, g, p2, p3, p4⟩ | ⟨p1, p2⟩
    ·exact .inl ⟨p1, g, by omega, p3, p4⟩
    ·refine .inr ⟨p1, fun g h1 h2 => ?_⟩
     by_cases hg : g = f
     ·rw [hg]; exact hV
     ·exact p2 g (by omega) h2
  ·rw [if_neg (by rw [decide_eq_true_eq]; omega)]
   exact ⟨_, rfl, .inr ⟨rfl, fun g h1 h2 => by omega⟩⟩
theorem lo_ok (a : Int) : sndOk a (u8lo a) ∧ cont (u8lo a) := by
 unfold sndOk cont u8lo u8hi
 repeat' split <;> omega
theorem u8n_L (a : Int) : (2 ≤ u8n a → l1L a = u8n a ∧ 128 ≤ a) ∧ (u8n a < 2 → True) := by
 refine ⟨fun h => ?_, fun _ => trivial⟩
 unfold u8n l1L at *
 repeat' split at h <;> first | omega | (repeat' split <;> omega)
theorem p_specBegun (S : ByteArray) : zj.f S = some (begB (yd S)) := by
 unfold zj.f
 have hs := size_bytes S
 have h0 := rdS_at S 0
 rw [show ((0 : Nat) : Int) = 0 from rfl] at h0
 have hr := bytes_rng S
 cases hL : yd S with
 | nil =>
  rw [hL] at hs
  have : (S.size : Int) = 0 := by rw [hs]; rfl
  simp [this, begB]
 | cons a r =>
  rw [hL] at hs h0 hr
  have n0 : ((S.size : Int) == 0) = false := by rw [beq_eq_false_iff_ne, hs]; simp; omega
  by_cases h3 : S.size > 3
  ·have d3 : decide ((S.size : Int) > 3) = true := by rw [decide_eq_true_eq]; omega
   have e : begB (a :: r) = false := by
    match r, hs with
    | [], hs => simp at hs; omega
    | [_], hs => simp at hs; omega
    | [_, _], hs => simp at hs; omega
    | _ :: _ :: _ :: _, _ => rfl
   simp [n0, d3, e]
  have d3 : decide ((S.size : Int) > 3) = false := by rw [decide_eq_false_iff_not]; omega
  rw [h0]
  simp only [n0, d3, Bool.false_eq_true, if_false, List.getElem?_cons_zero, Option.bind_some, p_l1Long]
  have un := u8n_L a
  by_cases hle : l1L a ≤ (S.size : Int)
  ·have e : begB (a :: r) = false := by
    match r, hs with
    | [], hs =>
     simp only [begB, decide_eq_false_iff_not]
     intro h
     have := (un.1 h).1
     simp at hs
     omega
    | [b], hs =>
     simp only [begB, Bool.and_eq_false_iff, decide_eq_false_iff_not]
     left
     intro h
     have := (un.1 (by omega)).1
     simp at hs
     omega
    | [b, c], hs =>
     simp only [begB, Bool.and_eq_false_iff, decide_eq_false_iff_not]
     left
     intro h
     have := (un.1 (by omega)).1
     simp at hs
     omega
    | _ :: _ :: _ :: _, _ => rfl
   simp [hle, e]
  simp only [hle, decide_false, Bool.false_eq_true, if_false]
  obtain ⟨m, hm⟩ : ∃ m : Nat, l1L a = m := ⟨(l1L a).toNat, by unfold l1L; repeat' split <;> omega⟩
  have hm4 : m ≤ 4 := by unfold l1L at hm; repeat' split at hm <;> omega
  have hlen : (a :: r).length = r.length + 1 := rfl
  obtain ⟨o, o1, o2⟩ := p_begLoop S a r hL m hm hm4 (by omega) (((192 : Int) - (128)).toNat + 2) 128 (by omega) (by omega) (by decide)
  rw [show ((128 : Nat) : Int) = 128 from rfl] at o1
  rw [o1]
  simp only [Option.bind_some]
  have key : (∃ g : Nat, 128 ≤ g ∧ g < 192 ∧ 1 < (dec ((a :: r) ++ List.replicate (m - (a :: r).length) (g : Int))).2) ↔ begB (a :: r) = true := by
   have lo := lo_ok a
   have lob : 128 ≤ u8lo a ∧ u8lo a < 192 := by unfold u8lo; repeat' split <;> omega
   obtain ⟨g0, hg0⟩ := Int.eq_ofNat_of_zero_le (show 0 ≤ u8lo a by omega)
   have hcg : ∀ g : Nat, 128 ≤ g → g < 192 → cont (g : Int) := fun g h1 h2 => by unfold cont; omega
   match r, hs, hm with
   | [], hs, hm =>
    simp only [List.length_cons, List.length_nil] at hs
    simp only [begB, decide_eq_true_eq]
    constructor
    ·rintro ⟨g, g1, g2, g3⟩
     rw [dec_snd] at g3
     have e0 : ([a] ++ List.replicate (m - 1) (g : Int)).getD 0 0 = a := rfl
     simp only [List.length_cons, List.length_nil, Nat.zero_add] at g3
     rw [e0] at g3
     omega
    ·intro h
     have hu := un.1 h
     refine ⟨g0, by omega, by omega, ?_⟩
     rw [dec_snd]
     simp only [List.length_cons, List.length_nil, Nat.zero_add]
     have e0 : ([a] ++ List.replicate (m - 1) (g0 : Int)).getD 0 0 = a := rfl
     rw [e0]
     refine ⟨hu.2, ?_⟩
     rw [hg0] at lo
     have hu4 := u8n_le a
     rcases (show m = 2 ∨ m = 3 ∨ m = 4 by omega) with rfl | rfl | rfl
     ·exact .inl ⟨by omega, lo.1⟩
     ·exact .inr (.inl ⟨by omega, lo.1, lo.2⟩)
     ·exact .inr (.inr ⟨by omega, lo.1, lo.2, lo.2⟩)
   | [b], hs, hm =>
    simp only [List.length_cons, List.length_nil] at hs
    simp only [begB, Bool.and_eq_true, decide_eq_true_eq]
    constructor
    ·rintro ⟨g, g1, g2, g3⟩
     rw [dec_snd] at g3
     simp only [List.length_cons, List.length_nil, Nat.zero_add] at g3
     have e0 : ([a, b] ++ List.replicate (m - 2) (g : Int)).getD 0 0 = a := rfl
     have e1 : ([a, b] ++ List.replicate (m - 2) (g : Int)).getD 1 0 = b := rfl
     rw [show m - (1 + 1) = m - 2 from rfl, e0, e1] at g3
     obtain ⟨k0, k | k | k⟩ := g3
     ·have := (un.1 (by omega)).1; omega
     ·exact ⟨by omega, k.2.1⟩
     ·exact ⟨by omega, k.2.1⟩
    ·rintro ⟨h, h2⟩
     have hu := un.1 (by omega)
     refine ⟨128, by omega, by omega, ?_⟩
     rw [dec_snd]
     simp only [List.length_cons, List.length_nil, Nat.zero_add]
     have e0 : ([a, b] ++ List.replicate (m - 2) ((128 : Nat) : Int)).getD 0 0 = a := rfl
     have e1 : ([a, b] ++ List.replicate (m - 2) ((128 : Nat) : Int)).getD 1 0 = b := rfl
     rw [show m - (1 + 1) = m - 2 from rfl, e0, e1]
     refine ⟨hu.2, ?_⟩
     have hu4 := u8n_le a
     have c128 := hcg 128 (by omega) (by omega)
     rcases (show m = 3 ∨ m = 4 by omega) with rfl | rfl
     ·exact .inr (.inl ⟨by omega, h2, c128⟩)
     ·exact .inr (.inr ⟨by omega, h2, c128, c128⟩)
   | [b, c], hs, hm =>
    simp only [List.length_cons, List.length_nil] at hs
    simp only [begB, Bool.and_eq_true, decide_eq_true_eq]
    constructor
    ·rintro ⟨g, g1, g2, g3⟩
     rw [dec_snd] at g3
     simp only [List.length_cons, List.length_nil, Nat.zero_add] at g3
     have e0 : ([a, b, c] ++ List.replicate (m - 3) (g : Int)).getD 0 0 = a := rfl
     have e1 : ([a, b, c] ++ List.replicate (m - 3) (g : Int)).getD 1 0 = b := rfl
     have e2 : ([a, b, c] ++ List.replicate (m - 3) (g : Int)).getD 2 0 = c := rfl
     rw [show m - (1 + 1 + 1) = m - 3 from rfl, e0, e1, e2] at g3
     obtain ⟨k0, k | k | k⟩ := g3
     ·have := (un.1 (by omega)).1; omega
     ·have := (un.1 (by omega)).1; omega
     ·exact ⟨by omega, k.2.1, k.2.2.1⟩
    ·rintro ⟨h, h2, h4⟩
     have hu := un.1 (by omega)
     refine ⟨128, by omega, by omega, ?_⟩
     rw [dec_snd]
     simp only [List.length_cons, List.length_nil, Nat.zero_add]
     have e0 : ([a, b, c] ++ List.replicate (m - 3) ((128 : Nat) : Int)).getD 0 0 = a := rfl
     have e1 : ([a, b, c] ++ List.replicate (m - 3) ((128 : Nat) : Int)).getD 1 0 = b := rfl
     have e2 : ([a, b, c] ++ List.replicate (m - 3) ((128 : Nat) : Int)).getD 2 0 = c := rfl
     rw [show m - (1 + 1 + 1) = m - 3 from rfl, e0, e1, e2]
     refine ⟨hu.2, ?_⟩
     have hu4 := u8n_le a
     have c128 := hcg 128 (by omega) (by omega)
     obtain rfl : m = 4 := by omega
     exact .inr (.inr ⟨by omega, h2, h4, c128⟩)
   | _ :: _ :: _ :: _, hs, _ => simp at hs; omega
  rcases o2 with ⟨rfl, p2⟩ | ⟨rfl, p2⟩
  ·rw [key.1 p2]
  ·have : begB (a :: r) = false := by
    cases hb : begB (a :: r) with
    | false => rfl
    | true =>
     obtain ⟨g, g1, g2, g3⟩ := key.2 hb
     exact absurd g3 (p2 g g1 g2)
   rw [this]
theorem mul_le160 {w h : Int} (h1 : 1 ≤ w) (h2 : w ≤ 20) (h3 : 1 ≤ h) (h4 : h ≤ 8) : 1 ≤ w * h ∧ w * h ≤ 160 := by
 have a := Int.mul_le_mul h2 h4 (by omega) (by omega)
 have b := Int.mul_le_mul h1 h3 (by omega) (by omega)
 omega
theorem p_or (u v : Nat) (hu : u < 256) (hv : v < 256) : bits .or .i64 ((u : Int) * 256) (v : Int) = (u : Int) * 256 + v := by
 unfold bits
 have e1 : BitVec.ofInt IntKind.i64.bits ((u : Int) * 256) = BitVec.ofNat 64 (256 * u) := by
  show BitVec.ofInt 64 _ = _
  rw [show (u : Int) * 256 = ((256 * u : Nat) : Int) by omega]
  exact BitVec.ofInt_natCast 64 _
 have e2 : BitVec.ofInt IntKind.i64.bits (v : Int) = BitVec.ofNat 64 v := BitVec.ofInt_natCast 64 _
 rw [e1, e2]
 dsimp only
 have e3 : (BitVec.ofNat 64 (256 * u) ||| BitVec.ofNat 64 v).toNat = 256 * u + v := by
  rw [BitVec.toNat_or, BitVec.toNat_ofNat, BitVec.toNat_ofNat, Nat.mod_eq_of_lt (by omega), Nat.mod_eq_of_lt (by omega)]
  exact (Nat.two_pow_add_eq_or_of_lt (i := 8) hv u).symm
 have e4 : (((BitVec.ofNat 64 (256 * u) ||| BitVec.ofNat 64 v).toNat : Nat) : Int) = ((256 * u + v : Nat) : Int) := by rw [e3]
 have key : IntKind.i64.wrap (((BitVec.ofNat 64 (256 * u) ||| BitVec.ofNat 64 v).toNat : Nat) : Int) = (u : Int) * 256 + v := by
  rw [e4, yp (by omega) (by omega)]
  omega
 exact key
def unitB (en : Int) (L : List Int) : Int := if en = 2 then L.getD 0 0 * 256 + L.getD 1 0 else L.getD 1 0 * 256 + L.getD 0 0
theorem sh8a : min (8 : Int).toNat IntKind.i64.bits = 8 := by decide
theorem sh8b : (2 : Int) ^ 8 = 256 := by decide
theorem sh8c (u : Nat) : shlK? .i64 (u : Int) 8 = some (IntKind.i64.wrap ((u : Int) * 2 ^ (min (8 : Int).toNat IntKind.i64.bits))) := by
 unfold shlK?
 exact if_pos (by omega)
theorem p_shl8 (u : Nat) (hu : u < 256) : shlK? .i64 (u : Int) 8 = some ((u : Int) * 256) := by
 rw [sh8c u, sh8a, sh8b, yp (by omega) (by omega)]
theorem bindE {α β : Type} {x : Option α} {f : α → Option β} {a : α} {b : Option β} (h : x = some a) (h2 : f a = b) : x.bind f = b := by subst h; exact h2
theorem unitGen (en a b A B ra rb : Int) (S : ByteArray) (h0 : rdS? S 0 = some a) (h1 : rdS? S 1 = some b) (sa : shlK? .i64 (IntKind.i64.wrap a) 8 = some A) (sb : shlK? .i64 (IntKind.i64.wrap b) 8 = some B) (oa : bits .or .i64 A (IntKind.i64.wrap b) = ra) (ob : bits .or .i64 B (IntKind.i64.wrap a) = rb) : z13.f en S = some (if en = 2 then ra else rb) := by
 unfold z13.f
 by_cases he : en = 2
 ·rw [if_pos he]
  exact (if_pos (show (en == 2) = true by simpa using he)).trans (bindE h0 (bindE sa (bindE h1 (congrArg some oa))))
 ·rw [if_neg he]
  exact (if_neg (show ¬ (en == 2) = true by simpa using he)).trans (bindE h1 (bindE sb (bindE h0 (congrArg some ob))))
theorem p_implUnit (en : Int) (S : ByteArray) (h2 : 2 ≤ S.size) : z13.f en S = some (unitB en (yd S)) := by
 have hs := size_bytes S
 have hr := bytes_rng S
 have h0 := rdS_at S 0
 have h1 := rdS_at S 1
 rw [show ((0 : Nat) : Int) = 0 from rfl] at h0
 rw [show ((1 : Nat) : Int) = 1 from rfl] at h1
 cases hL : yd S with
 | nil => rw [hL] at hs; simp only [List.length_nil] at hs; omega
 | cons a t =>
  cases t with
  | nil => rw [hL] at hs; simp only [List.length_cons, List.length_nil] at hs; omega
  | cons b r =>
   rw [hL] at h0 h1 hr
   have ha := hr a (List.mem_cons_self)
   have hb := hr b (List.mem_cons_of_mem _ List.mem_cons_self)
   have wa : IntKind.i64.wrap a = ((a.toNat : Nat) : Int) := by rw [yp (by omega) (by omega)]; omega
   have wb : IntKind.i64.wrap b = ((b.toNat : Nat) : Int) := by rw [yp (by omega) (by omega)]; omega
   have ea : ((a.toNat : Nat) : Int) = a := by omega
   have eb : ((b.toNat : Nat) : Int) = b := by omega
   have sa := p_shl8 a.toNat (by omega)
   have sb := p_shl8 b.toNat (by omega)
   have oa := p_or a.toNat b.toNat (by omega) (by omega)
   have ob := p_or b.toNat a.toNat (by omega) (by omega)
   rw [ea] at sa ob oa
   rw [eb] at sb oa ob
   rw [ea] at wa
   rw [eb] at wb
   refine (unitGen en a b (a * 256) (b * 256) (a * 256 + b) (b * 256 + a) S h0 h1 (by rw [wa]; exact sa) (by rw [wb]; exact sb) (by rw [wb]; exact oa) (by rw [wa]; exact ob)).trans ?_
   rfl
theorem p_specUnit (en : Int) (S : ByteArray) (h2 : 2 ≤ S.size) : zl.f en S = some (unitB en (yd S)) := by
 unfold zl.f unitB
 have hs := size_bytes S
 have hr := bytes_rng S
 have h0 := rdS_at S 0
 have h1 := rdS_at S 1
 rw [show ((0 : Nat) : Int) = 0 from rfl] at h0
 rw [show ((1 : Nat) : Int) = 1 from rfl] at h1
 rw [h0, h1]
 generalize yd S = L at *
 match L, hs with
 | [], hs => simp only [List.length_cons, List.length_nil] at hs; omega
 | [_], hs => simp only [List.length_cons, List.length_nil] at hs; omega
 | a :: b :: r, hs =>
  have hx := hr a (by simp)
  have hy := hr b (by simp)
  by_cases he : en = 2
  ·simp [he, yp (n := a) (by omega) (by omega), yp (n := b) (by omega) (by omega), yp (n := a * 256) (by omega) (by omega), yp (n := a * 256 + b) (by omega) (by omega)]
  ·simp [he, yp (n := a) (by omega) (by omega), yp (n := b) (by omega) (by omega), yp (n := b * 256) (by omega) (by omega), yp (n := b * 256 + a) (by omega) (by omega)]
/-- A good decoder. -/
def okDec (en sh lo : Int) (L : List Int) : Bool := (decide (1 ≤ en) && decide (en ≤ 5)) && (decide (0 ≤ sh) && decide (sh ≤ 1)) && (decide (0 ≤ lo) && decide (lo ≤ 1000)) && !(decide (en ≠ 5) && decide (0 < sh + lo)) &&
 (if L = [] then true else if en = 1 then begB L else if en = 2 ∨ en = 3 then decide (L.length ≤ 3) && (decide (L.length = 1) || (decide (55296 ≤ unitB en L) && decide (unitB en L ≤ 56319))) else false)
theorem p_implDec (en sh lo : Int) (S : ByteArray) : z15.f en sh lo S = some (okDec en sh lo (yd S)) := by
 unfold z15.f z0y.f z12.f z14.f okDec
 have hs := size_bytes S
 simp only [p_inRange, Option.bind_some, strB, bytes_nil, p_begun]
 by_cases h1 : 1 ≤ en ∧ en ≤ 5
 ·by_cases h2 : 0 ≤ sh ∧ sh ≤ 1
  ·by_cases h3 : 0 ≤ lo ∧ lo ≤ 1000
   ·rw [yp (n := sh + lo) (by omega) (by omega)]
    by_cases h4 : en ≠ 5 ∧ 0 < sh + lo
    ·simp [h1, h2, h3, h4]
    ·have e4 : (decide (en ≠ 5) && decide (0 < sh + lo)) = false := by
      rw [Bool.and_eq_false_iff, decide_eq_false_iff_not, decide_eq_false_iff_not]
      by_cases a : en = 5
      ·left; simpa using a
      ·right; intro b; exact h4 ⟨a, b⟩
     have e5 : (if (en != 5) = true then (some (decide (sh + lo > 0))) else (some false)) = some false := by
      by_cases a : en = 5
      ·simp [a]
      ·have : ¬ 0 < sh + lo := fun b => h4 ⟨a, b⟩
       simp [a]; omega
     simp only [h1, h2, h3, decide_true, Bool.and_self, Bool.not_true, Bool.false_eq_true, if_false, e5, Option.bind_some, e4, Bool.not_false, Bool.true_and]
     by_cases hL : yd S = []
     ·simp [hL]
     ·simp only [hL, decide_false, Bool.false_eq_true, if_false]
      by_cases he : en = 1
      ·simp [he]
      ·have he' : (en == 1) = false := by simpa using he
       simp only [he', he, Bool.false_eq_true, if_false]
       by_cases h23 : en = 2 ∨ en = 3
       ·have hu : (if (en == 2) = true then (some true) else (some (en == 3))) = some true := by rcases h23 with h | h <;> simp [h]
        simp only [hu, Option.bind_some, if_true, h23]
        by_cases hl3 : S.size ≤ 3
        ·have d1 : decide ((S.size : Int) ≤ 3) = true := by rw [decide_eq_true_eq]; omega
         have d2 : decide ((yd S).length ≤ 3) = true := by rw [decide_eq_true_eq]; omega
         simp only [d1, d2, if_true, Bool.true_and]
         by_cases hl1 : S.size = 1
         ·have d3 : ((S.size : Int) == 1) = true := by rw [beq_iff_eq]; omega
          have d4 : decide ((yd S).length = 1) = true := by rw [decide_eq_true_eq]; omega
          simp [d3, d4]
         ·have d3 : ((S.size : Int) == 1) = false := by rw [beq_eq_false_iff_ne]; omega
          have d4 : decide ((yd S).length = 1) = false := by rw [decide_eq_false_iff_not]; omega
          have hne : (yd S).length ≠ 0 := fun h => hL (List.eq_nil_of_length_eq_zero h)
          simp only [d3, d4, Bool.false_eq_true, if_false, Bool.false_or]
          rw [p_implUnit en S (by omega)]
          simp
        ·have d1 : decide ((S.size : Int) ≤ 3) = false := by rw [decide_eq_false_iff_not]; omega
         have d2 : decide ((yd S).length ≤ 3) = false := by rw [decide_eq_false_iff_not]; omega
         simp [d1, d2]
       ·have hu : (if (en == 2) = true then (some true) else (some (en == 3))) = some false := by
         have a : en ≠ 2 := fun h => h23 (.inl h)
         have b : en ≠ 3 := fun h => h23 (.inr h)
         simp [a, b]
        simp only [hu, Option.bind_some, Bool.false_eq_true, if_false, h23]
   ·have : (decide (0 ≤ lo) && decide (lo ≤ 1000)) = false := by simpa using h3
    simp [h1, h2, this]
  ·have : (decide (0 ≤ sh) && decide (sh ≤ 1)) = false := by simpa using h2
   simp [h1, this]
 ·have : (decide (1 ≤ en) && decide (en ≤ 5)) = false := by simpa using h1
  simp [this]
theorem p_specDec (en sh lo : Int) (S : ByteArray) : zn.f en sh lo S = some (okDec en sh lo (yd S)) := by
 unfold zn.f ze.f zk.f zm.f okDec
 have hs := size_bytes S
 simp only [p_l1In, Option.bind_some, strB, bytes_nil, p_specBegun]
 by_cases h1 : 1 ≤ en ∧ en ≤ 5
 ·by_cases h2 : 0 ≤ sh ∧ sh ≤ 1
  ·by_cases h3 : 0 ≤ lo ∧ lo ≤ 1000
   ·rw [yp (n := sh + lo) (by omega) (by omega)]
    by_cases h4 : en ≠ 5 ∧ 0 < sh + lo
    ·simp [h1, h2, h3, h4]
    ·have e4 : (decide (en ≠ 5) && decide (0 < sh + lo)) = false := by
      rw [Bool.and_eq_false_iff, decide_eq_false_iff_not, decide_eq_false_iff_not]
      by_cases a : en = 5
      ·left; simpa using a
      ·right; intro b; exact h4 ⟨a, b⟩
     have e5 : (if (en != 5) = true then (some (decide (sh + lo > 0))) else (some false)) = some false := by
      by_cases a : en = 5
      ·simp [a]
      ·have : ¬ 0 < sh + lo := fun b => h4 ⟨a, b⟩
       simp [a]; omega
     simp only [h1, h2, h3, decide_true, Bool.and_self, Bool.not_true, Bool.false_eq_true, if_false, e5, Option.bind_some, e4, Bool.not_false, Bool.true_and]
     by_cases he : en = 1
     ·by_cases hL : yd S = [] <;> simp [he, hL]
     ·have he' : (en == 1) = false := by simpa using he
      simp only [he', he, Bool.false_eq_true, if_false]
      by_cases h23 : en = 2 ∨ en = 3
      ·have hu : (if (en == 2) = true then (some true) else (some (en == 3))) = some true := by rcases h23 with h | h <;> simp [h]
       simp only [hu, Option.bind_some, if_true, h23]
       by_cases hL : yd S = []
       ·have d0 : decide ((S.size : Int) < 2) = true := by rw [decide_eq_true_eq, hs, hL]; simp
        simp [d0, hL]
       ·have hne : (yd S).length ≠ 0 := fun h => hL (List.eq_nil_of_length_eq_zero h)
        simp only [hL, if_false]
        by_cases hl1 : S.size = 1
        ·have d3 : decide ((S.size : Int) < 2) = true := by rw [decide_eq_true_eq]; omega
         have d4 : decide ((yd S).length = 1) = true := by rw [decide_eq_true_eq]; omega
         have d2 : decide ((yd S).length ≤ 3) = true := by rw [decide_eq_true_eq]; omega
         simp [d3, d4, d2]
        ·have d3 : decide ((S.size : Int) < 2) = false := by rw [decide_eq_false_iff_not]; omega
         have d4 : decide ((yd S).length = 1) = false := by rw [decide_eq_false_iff_not]; omega
         simp only [d3, d4, Bool.false_eq_true, if_false, Bool.false_or]
         by_cases hl3 : S.size ≤ 3
         ·have d1 : decide ((S.size : Int) < 4) = true := by rw [decide_eq_true_eq]; omega
          have d2 : decide ((yd S).length ≤ 3) = true := by rw [decide_eq_true_eq]; omega
          simp only [d1, d2, if_true, Bool.true_and]
          rw [p_specUnit en S (by omega)]
          simp
         ·have d1 : decide ((S.size : Int) < 4) = false := by rw [decide_eq_false_iff_not]; omega
          have d2 : decide ((yd S).length ≤ 3) = false := by rw [decide_eq_false_iff_not]; omega
          simp [d1, d2]
      ·have hu : (if (en == 2) = true then (some true) else (some (en == 3))) = some false := by
        have a : en ≠ 2 := fun h => h23 (.inl h)
        have b : en ≠ 3 := fun h => h23 (.inr h)
        simp [a, b]
       simp only [hu, Option.bind_some, Bool.false_eq_true, if_false, h23]
       by_cases hL : yd S = [] <;> simp [hL]
   ·have : (decide (0 ≤ lo) && decide (lo ≤ 1000)) = false := by simpa using h3
    simp [h1, h2, this]
  ·have : (decide (0 ≤ sh) && decide (sh ≤ 1)) = false := by simpa using h2
   simp [h1, this]
 ·have : (decide (1 ≤ en) && decide (en ≤ 5)) = false := by simpa using h1
  simp [this]
def okSess (en sh lo : Int) (L : List Int) (m : Int) (rs ls : List Int) (g : Int) (eof : Bool) : Bool := okDec en sh lo L && okBuf m rs ls g && (!eof || decide (L = []))
theorem p_implSess (en sh lo : Int) (S : ByteArray) (m : Int) (rs ls : List Int) (g : Int) (eof : Bool) (hr : rs.length ≤ big) (hl : ls.length ≤ big) : z1f.f en sh lo S m rs ls g eof = some (okSess en sh lo (yd S) m rs ls g eof) := by
 unfold z1f.f okSess
 rw [p_implDec]
 simp only [Option.bind_some, p_implBuf m rs ls g hr hl, strB, bytes_nil]
 cases okDec en sh lo (yd S) <;> cases okBuf m rs ls g <;> cases eof <;> simp
 exact decide_eq_decide.2 Iff.rfl
theorem p_specSess (en sh lo : Int) (S : ByteArray) (m : Int) (rs ls : List Int) (g : Int) (eof : Bool) (hr : rs.length ≤ big) (hl : ls.length ≤ big) : zr.f en sh lo S m rs ls g eof = some (okSess en sh lo (yd S) m rs ls g eof) := by
 unfold zr.f okSess
 rw [p_specDec]
 simp only [Option.bind_some, p_specBuf m rs ls g hr hl, strB, bytes_nil]
 cases okDec en sh lo (yd S) <;> cases okBuf m rs ls g <;> cases eof <;> simp
 exact decide_eq_decide.2 Iff.rfl
theorem okDec_nil {en sh lo : Int} {L : List Int} (h : okDec en sh lo L = true) : okDec en sh lo [] = true := by
 unfold okDec at *
 simp only [Bool.and_eq_true] at h ⊢
 exact ⟨h.1, by simp⟩
theorem okDec_len {en sh lo : Int} {L : List Int} (h : okDec en sh lo L = true) : L.length ≤ 3 := by
 unfold okDec at h
 simp only [Bool.and_eq_true] at h
 have h := h.2
 by_cases hL : L = []
 ·simp [hL]
 ·rw [if_neg hL] at h
  by_cases h1 : en = 1
  ·rw [if_pos h1] at h
   match L, h with
   | [_], _ => simp
   | [_, _], _ => simp
   | [_, _, _], _ => simp
   | _ :: _ :: _ :: _ :: _, h => simp [begB] at h
  ·rw [if_neg h1] at h
   by_cases h2 : en = 2 ∨ en = 3
   ·rw [if_pos h2] at h
    simp only [Bool.and_eq_true, decide_eq_true_eq] at h
    exact h.1
   ·rw [if_neg h2] at h
    cases h
/-- What the clauses take of a session. -/
def takeN (rs : List Int) (l : List Cl) (a : Int × Int × Int × List Int × Int) : Nat := if a.1 < 0 then 0 else if (l[a.1.toNat]?).map (·.1) = some 1 then a.2.2.1.toNat else rs.length
theorem p_TakeIn (en sh lo : Int) (hd : ByteArray) (mx : Int) (rs ls : List Int) (go : Int) (eof : Bool) (l : List Cl) (hr : rs.length ≤ big) (hl : ls.length ≤ big) (hcl : l.length ≤ 1000000000) (hb : ∀ c ∈ l, bgC c) : ∃ r : Int × Int × Int × ByteArray × Int × List Int × List Int × Int × Bool × Int × Int × Int × List Int × Int × Bool, z2f.f en sh lo hd mx rs ls go eof l = some r ∧ z2u.f en sh lo hd mx rs ls go eof l = some r ∧
  (r = (0, 0, 0, (⟨#[]⟩), 0, [], [], 0, false, 0, 0, 0, [], 0, false) ∨ okSess en sh lo (yd hd) mx rs ls go eof = true ∧ okCls l = true ∧ ∃ a, Said1 mx rs ls go eof l a ∧ r = (en, sh, lo, hd, mx, rs.drop (takeN rs l a), ls.drop (takeN rs l a), addAll go (ls.take (takeN rs l a)), eof, a.1, a.2.1, a.2.2.1, a.2.2.2.1, a.2.2.2.2, true) ∧ z2c.f en sh lo hd mx rs ls go eof l = some a) := by
 unfold z2f.f z2u.f
 rw [p_implSess en sh lo hd mx rs ls go eof hr hl, p_specSess en sh lo hd mx rs ls go eof hr hl, p_implCls l hcl hb, p_specCls l hcl hb]
 simp only [Option.bind_some]
 cases hs : okSess en sh lo (yd hd) mx rs ls go eof with
 | false => exact ⟨_, rfl, rfl, .inl rfl⟩
 | true =>
  cases hc : okCls l with
  | false => exact ⟨_, rfl, rfl, .inl rfl⟩
  | true =>
   simp only [Bool.not_true, Bool.false_eq_true, if_false, Option.bind_some]
   have hs0 := hs
   simp only [okSess, Bool.and_eq_true] at hs
   obtain ⟨⟨hd1, hb1⟩, he1⟩ := hs
   have hb2 := hb1
   simp only [okBuf, Bool.and_eq_true, decide_eq_true_eq, beq_iff_eq] at hb2
   have hrs : rs.length ≤ 60 := by omega
   have hls : ls.length = rs.length := by omega
   obtain ⟨a, e1, e2, hS⟩ := p_expect en sh lo hd mx rs ls go eof l (by omega) hls hc
   unfold z1w.f z1v.f z2e.f z2t.f
   rw [p_clone rs hr, p_clone ls hl]
   simp only [Option.bind_some]
   rw [e1, e2]
   simp only [Option.bind_some]
   have hn : takeN rs l a ≤ rs.length ∧ (a.1 < 0 ∨ ∃ (m : Nat) (h : m < l.length), a.1 = m ∧ ((l[m].1 == 1) = true ∧ a.2.2.1 = ((takeN rs l a : Nat) : Int) ∨ (l[m].1 == 1) = false ∧ takeN rs l a = rs.length)) ∧ (a.1 < 0 → takeN rs l a = 0) := by
    unfold takeN
    rcases hS with rfl | ⟨m, f, t, hm, k1, k2, k3, rfl, _⟩ | ⟨m, hm, k1, _, rfl⟩ | ⟨m, hm, k1, _, rfl⟩
    ·exact ⟨by simp, .inl (by decide), by simp⟩
    all_goals
     dsimp only
     have h0 : ¬ ((m : Int) < 0) := by omega
     rw [if_neg h0]
     simp only [Int.toNat_natCast, List.getElem?_eq_getElem hm, Option.map_some, k1]
     refine ⟨?_, .inr ⟨m, hm, rfl, ?_⟩, fun h => absurd h h0⟩
    ·simp; omega
    ·exact .inl ⟨by rw [k1]; rfl, by simp⟩
    ·simp
    ·exact .inr ⟨by rw [k1]; rfl, by simp⟩
    ·simp
    ·exact .inr ⟨by rw [k1]; rfl, by simp⟩
   obtain ⟨n1, n2, n3⟩ := hn
   generalize hN : takeN rs l a = N at *
   have hI : ((if decide (a.1 < 0) = true then some (rs, ls, go) else (rd? l a.1).bind fun u29 => if (u29.1 == 1) = true then (z2d.f en sh lo hd mx rs ls go eof a.2.2.1).bind fun u32 => some (u32.2.1, u32.2.2.1, u32.2.2.2) else (z2d.f en sh lo hd mx rs ls go eof (rs.length : Int)).bind fun u36 => some (u36.2.1, u36.2.2.1, u36.2.2.2))) = some (rs.drop N, ls.drop N, addAll go (ls.take N)) := by
    rcases n2 with h | ⟨m, hm, h, h2⟩
    ·rw [if_pos (by simpa using h), n3 h]
     rfl
    ·rw [if_neg (by rw [decide_eq_true_eq]; omega), h, rd?_at hm]
     simp only [Option.bind_some]
     rcases h2 with ⟨h2, h3⟩ | ⟨h2, h3⟩
     ·rw [if_pos h2, h3, p_takeS en sh lo hd eof mx rs ls go N n1 (by omega) hr hl]
      rfl
     ·rw [if_neg (by rw [h2]; simp), ← h3, p_takeS en sh lo hd eof mx rs ls go N n1 (by omega) hr hl]
      rfl
   have hSp : (((if decide (a.1 ≥ 0) = true then (rd? l a.1).bind fun u31 => some (u31.1 == 1) else some false).bind fun (o : Bool) => match o with | x29 => if x29 = true then some a.2.2.1 else if decide (a.1 ≥ 0) = true then some (rs.length : Int) else some 0)) = some (N : Int) := by
    rcases n2 with h | ⟨m, hm, h, h2⟩
    ·have hge : decide (a.1 ≥ 0) = false := by rw [decide_eq_false_iff_not]; omega
     rw [hge, n3 h]
     rfl
    ·have hge : decide (a.1 ≥ 0) = true := by rw [decide_eq_true_eq]; omega
     rw [hge, h, rd?_at hm]
     simp only [if_true, Option.bind_some]
     rcases h2 with ⟨h2, h3⟩ | ⟨h2, h3⟩
     ·rw [if_pos h2, h3]
     ·rw [if_neg (by rw [h2]; simp), h3]
   rw [hI, hSp]
   simp only [Option.bind_some]
   have L1 : (rs.drop N).length ≤ 60 := by simp; omega
   have L2 : (ls.drop N).length ≤ 60 := by simp; omega
   rw [p_drop mx rs ls go N n1 (by omega) hr hl, p_implBuf mx _ _ _ (by unfold big; omega) (by unfold big; omega)]
   simp only [Option.bind_some]
   rw [p_specSess en sh lo hd mx _ _ _ eof (by unfold big; omega) (by unfold big; omega)]
   have ok2 : okSess en sh lo (yd hd) mx (rs.drop N) (ls.drop N) (addAll go (ls.take N)) eof = okBuf mx (rs.drop N) (ls.drop N) (addAll go (ls.take N)) := by
    unfold okSess
    rw [hd1, Bool.true_and]
    have : (!eof || decide (yd hd = [])) = true := by simpa using he1
    rw [this, Bool.and_true]
   rw [ok2]
   simp only [Option.bind_some]
   cases okBuf mx (rs.drop N) (ls.drop N) (addAll go (ls.take N)) with
   | false => exact ⟨_, rfl, rfl, .inl rfl⟩
   | true => exact ⟨_, rfl, rfl, .inr ⟨trivial, trivial, a, hS, by rw [hN], rfl⟩⟩
theorem wrapU (n : Int) : 0 ≤ IntKind.u64.wrap n ∧ IntKind.u64.wrap n < 18446744073709551616 := by rw [IntKind.wrap_u64]; omega
theorem p_next (code : List Int) (hc : allW (inK .u8) code) (a s : Int) (h0 : 0 ≤ a) (h1 : a ≤ 1000000000000000) : ∃ n s', za.f code a s = some (n, a + 1, s') ∧ 0 ≤ n ∧ n ≤ 255 := by
 unfold za.f
 have key : ∃ x : Int, (if (decide (a < (code.length : Int))) = true then ((rd? code a).bind fun u10 => some (IntKind.i64.wrap u10)) else (some 0)) = some x ∧ 0 ≤ x ∧ x ≤ 255 := by
  obtain ⟨k, rfl⟩ := Int.eq_ofNat_of_zero_le h0
  by_cases h : k < code.length
  ·rw [if_pos (by simpa using h), rd?_at h]
   have hb : -0 ≤ code[k] ∧ code[k] ≤ 255 := by
    have := hc.2 _ (List.getElem_mem h)
    exact this
   simp only [Option.bind_some]
   rw [yp (by omega) (by omega)]
   exact ⟨_, rfl, by omega, by omega⟩
  ·rw [if_neg (by simpa using h)]
   exact ⟨0, rfl, by omega, by omega⟩
 obtain ⟨x, e, x0, x1⟩ := key
 rw [e]
 simp only [Option.bind_some]
 rw [yp (n := a + 1) (by omega) (by omega)]
 generalize IntKind.u64.wrap (IntKind.u64.wrap (IntKind.u64.wrap (s * 6364136223846793005) + IntKind.u64.wrap x) + 1442695040888963407) = y
 by_cases h : a + 1 ≤ (code.length : Int)
 ·rw [if_pos (by simpa using h)]
  exact ⟨x, y, rfl, x0, x1⟩
 ·rw [if_neg (by simpa using h)]
  have hs : ∃ q, shrK? .u64 y 40 = some q := ⟨_, by unfold shrK?; rw [if_pos (by decide)]⟩
  obtain ⟨q, hq⟩ := hs
  rw [hq]
  simp only [Option.bind_some]
  have hb : 0 ≤ bits .and .u64 q 255 ∧ bits .and .u64 q 255 ≤ 255 := by
   unfold bits
   dsimp only
   have : (BitVec.ofInt IntKind.u64.bits q &&& BitVec.ofInt IntKind.u64.bits 255).toNat ≤ 255 := by
    rw [BitVec.toNat_and]
    exact Nat.le_trans Nat.and_le_right (by decide)
   rw [IntKind.wrap_u64]
   omega
  rw [yp (by omega) (by omega)]
  exact ⟨_, y, rfl, hb.1, hb.2⟩
theorem p_pick (code : List Int) (hc : allW (inK .u8) code) (a s n : Int) (h0 : 0 ≤ a) (h1 : a ≤ 1000000000000) : ∃ r a' s', zb.f code a s n = some (r, a', s') ∧ 0 ≤ r ∧ (1 ≤ n → r < n) ∧ (n ≤ 1 → r = 0) ∧ r ≤ 65535 ∧ a ≤ a' ∧ a' ≤ a + 2 := by
 unfold zb.f
 by_cases hn : n ≤ 1
 ·rw [if_pos (by simpa using hn)]
  exact ⟨0, a, s, rfl, by omega, by omega, by omega, by omega, by omega, by omega⟩
 ·rw [if_neg (by simpa using hn)]
  obtain ⟨x, s1, e1, x0, x1⟩ := p_next code hc a s h0 (by omega)
  rw [e1]
  simp only [Option.bind_some]
  have key : ∀ (v a' s' : Int), 0 ≤ v → v ≤ 65535 → a ≤ a' → a' ≤ a + 2 → ∃ r b' t', (rem? v n).bind (fun u20 => some (u20, a', s')) = some (r, b', t') ∧ 0 ≤ r ∧ (1 ≤ n → r < n) ∧ (n ≤ 1 → r = 0) ∧ r ≤ 65535 ∧ a ≤ b' ∧ b' ≤ a + 2 := by
   intro v a' s' v0 v1 b0 b1
   unfold rem?
   rw [if_neg (by omega)]
   have e := Int.tmod_eq_emod_of_nonneg (b := n) v0
   have hb := Int.emod_lt_of_pos v (show 0 < n by omega)
   have hb0 := Int.emod_nonneg v (show n ≠ 0 by omega)
   have hb1 : v % n ≤ v := by
    by_cases hvn : v < n
    ·rw [Int.emod_eq_of_lt v0 hvn]; exact Int.le_refl _
    ·omega
   rw [e]
   exact ⟨_, a', s', rfl, hb0, fun _ => hb, by omega, by omega, b0, b1⟩
  by_cases h2 : n > 200
  ·rw [if_pos (by simpa using h2)]
   obtain ⟨y, s2, e2, y0, y1⟩ := p_next code hc (a + 1) s1 (by omega) (by omega)
   rw [e2]
   simp only [Option.bind_some]
   rw [yp (n := x * 256) (by omega) (by omega), yp (by omega) (by omega)]
   exact key (x * 256 + y) (a + 1 + 1) s2 (by omega) (by omega) (by omega) (by omega)
  ·rw [if_neg (by simpa using h2)]
   exact key x (a + 1) s1 (by omega) (by omega) (by omega) (by omega)
/-- A step that ends, and what holds of its end. -/
def Tt {α : Type} (X : Option α) (Φ : α → Prop) : Prop := ∃ r, X = some r ∧ Φ r
theorem Tt.bind {α β : Type} {X : Option α} {f : α → Option β} {Φ : α → Prop} {Ψ : β → Prop} (h : Tt X Φ) (k : ∀ r, Φ r → Tt (f r) Ψ) : Tt (X.bind f) Ψ := by
 obtain ⟨r, rfl, hr⟩ := h
 exact k r hr
theorem Tt.one {α : Type} {r : α} {Φ : α → Prop} (h : Φ r) : Tt (some r) Φ := ⟨r, rfl, h⟩
theorem Tt.ite {α : Type} {c : Prop} [Decidable c] {X Y : Option α} {Φ : α → Prop} (h1 : c → Tt X Φ) (h2 : ¬ c → Tt Y Φ) : Tt (if c then X else Y) Φ := by
 by_cases h : c
 ·rw [if_pos h]; exact h1 h
 ·rw [if_neg h]; exact h2 h
theorem Tt.mono {α : Type} {X : Option α} {Φ Ψ : α → Prop} (h : Tt X Φ) (k : ∀ r, Φ r → Ψ r) : Tt X Ψ := by
 obtain ⟨r, e, hr⟩ := h
 exact ⟨r, e, k r hr⟩
theorem Tt.cat {n : Nat} {a b : ByteArray} (h : a.size + b.size ≤ n) : Tt (cat? n a b) fun c => c.size = a.size + b.size := by
 obtain ⟨c, e, hc⟩ := cat_at h
 refine ⟨c, e, ?_⟩
 show c.size = a.size + b.size
 rw [size_bytes c, hc, List.length_append, ← size_bytes, ← size_bytes]
theorem Tt.cutS {S : ByteArray} {a b : Int} (h0 : 0 ≤ a) (h1 : a ≤ b) (h2 : b ≤ S.size) : Tt (cutS? S a b) fun c => (c.size : Int) = b - a := by
 obtain ⟨a, rfl⟩ := Int.eq_ofNat_of_zero_le h0
 obtain ⟨b, rfl⟩ := Int.eq_ofNat_of_zero_le (show 0 ≤ b by omega)
 have hb : b ≤ (yd S).length := by rw [← size_bytes]; omega
 obtain ⟨T, e, hT⟩ := cutS_at S (a := a) (b := b) (by omega) (by omega)
 refine ⟨T, e, ?_⟩
 show (T.size : Int) = _
 rw [size_bytes T, hT, List.length_drop, List.length_take]
 omega
theorem Tt.rd {α : Type} {xs : List α} {i : Int} (h0 : 0 ≤ i) (h : i < xs.length) : Tt (rd? xs i) fun r => r ∈ xs := by
 obtain ⟨k, rfl⟩ := Int.eq_ofNat_of_zero_le h0
 have hk : k < xs.length := by omega
 exact ⟨_, rd?_at hk, List.getElem_mem hk⟩
theorem Tt.app {α : Type} {n : Nat} {xs ys : List α} (h : xs.length + ys.length ≤ n) : Tt (app? n xs ys) fun r => r = xs ++ ys := ⟨_, app?_at h, rfl⟩
theorem Tt.quo {k : IntKind} {x y : Int} (h : y ≠ 0) : Tt (quo? k x y) fun _ => True := ⟨_, if_neg h, trivial⟩
theorem Tt.rem {x y : Int} (h : y ≠ 0) : Tt (rem? x y) fun _ => True := ⟨_, if_neg h, trivial⟩
theorem size_text (xs : List Int) : (textB xs).size = xs.length := by
 have key : ∀ (xs : List Int) (s : ByteArray), (xs.foldl (fun s n => s.push (UInt8.ofNat n.toNat)) s).size = s.size + xs.length := by
  intro xs
  induction xs with
  | nil => intro s; rfl
  | cons x xs ih =>
   intro s
   rw [List.foldl_cons, ih, List.length_cons, ByteArray.size_push]
   omega
 exact (key xs .empty).trans (Nat.zero_add _)
theorem t_next {code : List Int} (hc : allW (inK .u8) code) {a s : Int} (h0 : 0 ≤ a) (h1 : a ≤ 1000000000000) : Tt (za.f code a s) fun r => 0 ≤ r.1 ∧ r.1 ≤ 255 ∧ r.2.1 = a + 1 := by
 obtain ⟨n, s', e, x, y⟩ := p_next code hc a s h0 (by omega)
 exact ⟨_, e, x, y, rfl⟩
theorem t_pick {code : List Int} (hc : allW (inK .u8) code) {a s n : Int} (h0 : 0 ≤ a) (h1 : a ≤ 1000000000000) : Tt (zb.f code a s n) fun r => 0 ≤ r.1 ∧ (1 ≤ n → r.1 < n) ∧ (n ≤ 1 → r.1 = 0) ∧ r.1 ≤ 65535 ∧ a ≤ r.2.1 ∧ r.2.1 ≤ a + 2 := by
 obtain ⟨r, a', s', e, x1, x2, x3, x4, x5, x6⟩ := p_pick code hc a s n h0 h1
 exact ⟨_, e, x1, x2, x3, x4, x5, x6⟩
theorem p_among (code : List Int) (hc : allW (inK .u8) code) (a s : Int) (l : List Int) (hl : l ≠ []) (h0 : 0 ≤ a) (h1 : a ≤ 1000000000000) : ∃ r a' s', zc.f code a s l = some (r, a', s') ∧ r ∈ l ∧ a ≤ a' ∧ a' ≤ a + 2 := by
 unfold zc.f
 have hp : 0 < l.length := List.length_pos_iff.2 hl
 obtain ⟨r, a', s', e, r0, r1, _, _, b0, b1⟩ := p_pick code hc a s (l.length : Int) h0 h1
 rw [e]
 simp only [Option.bind_some]
 obtain ⟨k, rfl⟩ := Int.eq_ofNat_of_zero_le r0
 have hk : k < l.length := by have := r1 (by omega); omega
 rw [rd?_at hk]
 exact ⟨_, a', s', rfl, List.getElem_mem hk, b0, b1⟩
theorem t_among {code : List Int} (hc : allW (inK .u8) code) {a s : Int} {l : List Int} (hl : l ≠ []) (h0 : 0 ≤ a) (h1 : a ≤ 1000000000000) : Tt (zc.f code a s l) fun r => r.1 ∈ l ∧ a ≤ r.2.1 ∧ r.2.1 ≤ a + 2 := by
 obtain ⟨r, a', s', e, x1, x2, x3⟩ := p_among code hc a s l hl h0 h1
 exact ⟨_, e, x1, x2, x3⟩
theorem t_textOf {p : List Int} (hp : p.length ≤ 2000) (ho : ∀ u ∈ p, okRune u = true) : Tt (z0d.f p) fun S => S.size ≤ 4 * p.length := by
 unfold z0d.f
 have key : ∀ (k i : Nat) (out : List Int), i ≤ p.length → p.length - i < k → out.length ≤ 4 * i → Tt (z0d.l1 p k out i) fun r => r.length ≤ 4 * p.length := by
  intro k
  induction k with
  | zero => intro i out _ h; omega
  | succ k ih =>
   intro i out hi hk hl
   rw [z0d.l1]
   refine Tt.ite (fun h => ?_) (fun h => ?_)
   ·have h : i < p.length := by simpa using h
    have hr := ho p[i] (List.getElem_mem h)
    simp only [okRune, Bool.and_eq_true, decide_eq_true_eq] at hr
    rw [rd?_at h]
    refine (Tt.one (Φ := fun u => u = p[i]) rfl).bind fun u hu => ?_
    subst hu
    rw [p_l1Utf8 _ hr.1.1 hr.1.2]
    refine (Tt.one (Φ := fun u => u = textB (u8s p[i])) rfl).bind fun u hu => ?_
    subst hu
    rw [bytes_text (u8s p[i]) (u8s_in hr.1.1 hr.1.2)]
    have hu := u8s_len p[i]
    refine (Tt.app (by omega)).bind fun x hx => ?_
    subst hx
    rw [wrapN i (by omega)]
    exact ih (i + 1) _ h (by omega) (by rw [List.length_append]; omega)
   ·have h : ¬ i < p.length := by simpa using h
    exact .one (by omega)
 refine (key _ 0 [] (by omega) (by omega) (by simp)).bind fun r hr => ?_
 exact .one (by rw [size_text]; exact hr)
def runeR : List Int := [97, 98, 99, 120, 32, 49, 10, 0, 127, 128, 228, 769, 770, 2047, 2048, 4352, 4449, 12354, 44032, 55295, 57344, 65533, 65536, 128512, 1114111]
theorem runeR_ok : ∀ u ∈ runeR, okRune u = true := by decide
theorem t_rune {code : List Int} (hc : allW (inK .u8) code) {a s : Int} (h0 : 0 ≤ a) (h1 : a ≤ 1000000000000) : Tt (z08.f code a s) fun r => okRune r.1 = true ∧ a ≤ r.2.1 ∧ r.2.1 ≤ a + 2 := by
 unfold z08.f
 refine (t_among hc (l := runeR) (by decide) h0 h1).bind fun r hr => ?_
 exact .one ⟨runeR_ok _ hr.1, hr.2⟩
theorem t_runes {code : List Int} (hc : allW (inK .u8) code) {a s m : Int} (h0 : 0 ≤ a) (h1 : a ≤ 100000000000) (hm0 : 0 ≤ m) (hm : m ≤ 60000) : Tt (z0c.f code a s m) fun r => (r.1.length : Int) ≤ m ∧ (∀ u ∈ r.1, okRune u = true) ∧ a ≤ r.2.1 ∧ r.2.1 ≤ a + 2 + 2 * m := by
 unfold z0c.f
 rw [yp (by omega) (by omega)]
 refine (t_pick hc h0 (by omega)).bind fun r hr => ?_
 obtain ⟨r, a1, s1⟩ := r
 obtain ⟨r0, r1, _, _, b0, b1⟩ := hr
 dsimp only at *
 obtain ⟨k, rfl⟩ := Int.eq_ofNat_of_zero_le r0
 have hk : (k : Int) < m + 1 := r1 (by omega)
 have key : ∀ (n f : Nat) (l : List Int) (a s : Int), n < f → 0 ≤ a → a + 2 * n ≤ 1000000000000 → (∀ u ∈ l, okRune u = true) → l.length + n ≤ 100000 → Tt (z0c.l1 code f l (n : Int) a s) fun r => r.1.length = l.length + n ∧ (∀ u ∈ r.1, okRune u = true) ∧ a ≤ r.2.1 ∧ r.2.1 ≤ a + 2 * n := by
  intro n
  induction n with
  | zero =>
   intro f l a s hf ha ha2 hl hn
   obtain ⟨f, rfl⟩ := Nat.exists_eq_succ_of_ne_zero (show f ≠ 0 by omega)
   rw [z0c.l1, if_neg (by simp)]
   exact .one ⟨by dsimp only; omega, hl, by dsimp only; omega, by dsimp only; omega⟩
  | succ n ih =>
   intro f l a s hf ha ha2 hl hn
   obtain ⟨f, rfl⟩ := Nat.exists_eq_succ_of_ne_zero (show f ≠ 0 by omega)
   rw [z0c.l1, if_pos (by simp <;> omega)]
   refine (t_rune hc ha (by omega)).bind fun x hx => ?_
   refine (Tt.app (by simp; omega)).bind fun y hy => ?_
   subst hy
   rw [yp (by omega) (by omega), show ((n + 1 : Nat) : Int) - 1 = (n : Int) by omega]
   refine (ih f (l ++ [x.1]) _ _ (by omega) (by omega) (by omega) (fun u hu => ?_) (by simp; omega)).mono fun r hr => ⟨by rw [hr.1]; simp; omega, hr.2.1, by omega, by omega⟩
   rcases List.mem_append.1 hu with hu | hu
   ·exact hl u hu
   ·rw [List.mem_singleton.1 hu]; exact hx.1
 refine (key k _ [] a1 s1 (by omega) (by omega) (by omega) (by simp) (by simp; omega)).bind fun r hr => ?_
 obtain ⟨x, y, z⟩ := r
 dsimp only at *
 simp only [List.length_nil, Nat.zero_add] at hr
 exact .one ⟨by dsimp only; omega, hr.2.1, by dsimp only; omega, by dsimp only; omega⟩
theorem p_one (code : List Int) (hc : allW (inK .u8) code) (a s n : Int) (h0 : 0 ≤ a) (h1 : a ≤ 1000000000000) : ∃ (r : Bool) (a' s' : Int), z07.f code a s n = some (r, a', s') ∧ a ≤ a' ∧ a' ≤ a + 2 := by
 unfold z07.f
 obtain ⟨r, a', s', e, _, _, _, _, b0, b1⟩ := p_pick code hc a s n h0 h1
 rw [e]
 exact ⟨_, a', s', rfl, b0, b1⟩
theorem t_one {code : List Int} (hc : allW (inK .u8) code) {a s n : Int} (h0 : 0 ≤ a) (h1 : a ≤ 1000000000000) : Tt (z07.f code a s n) fun r => a ≤ r.2.1 ∧ r.2.1 ≤ a + 2 := by
 obtain ⟨r, a', s', e, x1, x2⟩ := p_one code hc a s n h0 h1
 exact ⟨_, e, x1, x2⟩
theorem t_of {code : List Int} (hc : allW (inK .u8) code) {a s : Int} {l : List ByteArray} (hl : l ≠ []) (h0 : 0 ≤ a) (h1 : a ≤ 1000000000000) : Tt (z0f.f code a s l) fun r => r.1 ∈ l ∧ a ≤ r.2.1 ∧ r.2.1 ≤ a + 2 := by
 unfold z0f.f
 have hp : 0 < l.length := List.length_pos_iff.2 hl
 refine (t_pick hc h0 h1).bind fun r hr => ?_
 refine (Tt.rd hr.1 (hr.2.1 (by omega))).bind fun x hx => ?_
 exact .one ⟨hx, hr.2.2.2.2⟩
theorem p_units (en : Int) : z12.f en = some (decide (en = 2 ∨ en = 3)) ∧ zk.f en = some (decide (en = 2 ∨ en = 3)) := by
 unfold z12.f zk.f
 by_cases h : en = 2 <;> by_cases h' : en = 3 <;> simp [h, h']
theorem size_nil : (⟨#[]⟩ : ByteArray).size = 0 := rfl
theorem t_pair (en n : Int) : Tt (z09.f en n) fun S => S.size = 2 := by
 unfold z09.f
 refine Tt.ite (fun _ => ?_) (fun _ => ?_)
 ·refine (Tt.quo (by decide)).bind fun _ _ => (Tt.rem (by decide)).bind fun _ _ => .one (by rw [size_text]; rfl)
 ·refine (Tt.rem (by decide)).bind fun _ _ => (Tt.quo (by decide)).bind fun _ _ => .one (by rw [size_text]; rfl)
theorem t_units (en : Int) : Tt (zk.f en) fun _ => True := ⟨_, (p_units en).2, trivial⟩
theorem t_l2Put (en sh r : Int) (h : okRune r = true) : Tt (z0a.f en sh r) fun x => x.1.size ≤ 4 := by
 simp only [okRune, Bool.and_eq_true, decide_eq_true_eq] at h
 unfold z0a.f
 refine Tt.ite (fun _ => ?_) (fun _ => ?_)
 ·rw [p_l1Utf8 _ h.1.1 h.1.2]
  exact .one (by dsimp only; rw [size_text]; exact u8s_len r)
 refine Tt.bind (Φ := fun _ => True) ?_ fun o _ => ?_
 ·refine (t_units en).bind fun _ _ => Tt.ite (fun _ => .one trivial) (fun _ => .one trivial)
 refine Tt.ite (fun _ => ?_) (fun _ => ?_)
 ·exact (t_pair _ _).bind fun x hx => .one (by dsimp only; omega)
 refine (t_units en).bind fun _ _ => Tt.ite (fun _ => ?_) (fun _ => ?_)
 ·refine (Tt.quo (by decide)).bind fun _ _ => (t_pair _ _).bind fun x hx => (Tt.rem (by decide)).bind fun _ _ => (t_pair _ _).bind fun y hy => ?_
  exact (Tt.cat (by omega)).bind fun z hz => .one (by dsimp only; omega)
 refine Tt.ite (fun _ => .one (by dsimp only; rw [size_text]; simp)) (fun _ => ?_)
 refine Tt.ite (fun _ => Tt.ite (fun _ => .one (by dsimp only; rw [size_text]; simp)) (fun _ => .one (by dsimp only; rw [size_text]; simp))) (fun _ => ?_)
 rw [p_l1In]
 refine (Tt.bind (Φ := fun _ => True) ((Tt.one (Φ := fun _ => True) trivial).bind fun _ _ => Tt.ite (fun _ => .one trivial) (fun _ => .one trivial))) fun o _ => ?_
 obtain ⟨x, y⟩ := o
 dsimp only
 rw [p_l1In]
 refine (Tt.bind (Φ := fun _ => True) ((Tt.one (Φ := fun _ => True) trivial).bind fun _ _ => Tt.ite (fun _ => .one trivial) (fun _ => Tt.ite (fun _ => .one trivial) (fun _ => .one trivial)))) fun o _ => ?_
 refine Tt.ite (fun _ => .one (by decide)) (fun _ => ?_)
 refine Tt.bind (Φ := fun z => z.size ≤ 2) (Tt.ite (fun _ => ?_) (fun _ => .one (by rw [size_text]; simp))) fun z hz => .one (by dsimp only; omega)
 exact (Tt.cat (by simp [size_text])).bind fun z hz => .one (by rw [hz, size_text, size_text]; exact Nat.le_refl 2)
theorem t_Encode (en : Int) (l : List Int) (hl : l.length ≤ 1000) : Tt (z0b.f en l) fun x => x.1.size ≤ 4 * l.length + 1 := by
 unfold z0b.f
 refine Tt.bind (Φ := fun x => x = false → ∀ u ∈ l, okRune u = true) ?_ fun o ho => ?_
 ·unfold ze.f
  rw [p_l1In]
  refine (Tt.one (Φ := fun _ => True) trivial).bind fun _ _ => Tt.bind (Φ := fun _ => True) (.one trivial) fun _ _ => ?_
  refine Tt.ite (fun _ => .one (by intro h; cases h)) (fun _ => ?_)
  rw [p_allRunes l (by unfold big; omega)]
  exact (Tt.one (Φ := fun x => x = (l.all okRune && decide (l.length ≤ 1000))) rfl).bind fun x hx => .one (by subst hx; intro h; simp at h; exact h.1)
 refine Tt.ite (fun _ => .one (by rw [size_nil]; omega)) (fun hn => ?_)
 have hok := ho (by simpa using hn)
 have key : ∀ (k i : Nat) (S : ByteArray) (sh : Int), i ≤ l.length → l.length - i < k → S.size ≤ 4 * i → Tt (z0b.l1 en l k S sh i) fun r => match r with | .go x => x.1.size ≤ 4 * l.length | .ret z => z.1.size = 0 := by
  intro k
  induction k with
  | zero => intro i S sh _ h; omega
  | succ k ih =>
   intro i S sh hi hk hS
   rw [z0b.l1]
   refine Tt.ite (fun h => ?_) (fun h => .one (by dsimp only; omega))
   have h : i < l.length := by simpa using h
   rw [rd?_at h]
   refine (Tt.one (Φ := fun u => u = l[i]) rfl).bind fun u hu => ?_
   subst hu
   refine (t_l2Put en sh _ (hok _ (List.getElem_mem h))).bind fun x hx => ?_
   refine Tt.ite (fun _ => ?_) (fun _ => ?_)
   ·exact (Tt.one (Φ := fun z => z.1.size = 0) rfl).bind fun z hz => .one hz
   ·refine (Tt.cat (by omega)).bind fun c hc => ?_
    rw [wrapN i (by omega)]
    exact ih (i + 1) c x.2.1 h (by omega) (by omega)
 refine (key _ 0 _ 0 (by omega) (by omega) (by decide)).bind fun o ho => ?_
 cases o with
 | ret z => exact .one (by dsimp only at ho ⊢; omega)
 | go x =>
  dsimp only at ho ⊢
  refine Tt.bind (Φ := fun z => z.size ≤ 4 * l.length + 1) (Tt.ite (fun _ => ?_) (fun _ => .one (by omega))) fun z hz => ?_
  ·refine (Tt.cat (by rw [size_text]; simp; omega)).bind fun c hc => .one (by rw [hc, size_text]; simp; omega)
  ·exact Tt.ite (fun _ => .one (by rw [size_nil]; omega)) (fun _ => .one hz)
theorem t_bytes {code : List Int} (hc : allW (inK .u8) code) {a s : Int} (h0 : 0 ≤ a) (h1 : a ≤ 100000000000) : Tt (z0e.f code a s) fun r => r.1.size ≤ 26 ∧ a ≤ r.2.1 ∧ r.2.1 ≤ a + 50 := by
 unfold z0e.f
 refine (t_runes hc h0 h1 (by decide) (by decide)).bind fun l hl => ?_
 refine (t_textOf (by omega) hl.2.1).bind fun S hS => ?_
 refine Tt.bind (Φ := fun r : ByteArray × Int × Int => r.1.size ≤ 26 ∧ a ≤ r.2.1 ∧ r.2.1 ≤ a + 50) ?_ fun o ho => .one ho
 refine (t_pick hc (by omega) (by omega)).bind fun x hx => ?_
 have key : ∀ (n f : Nat) (S : ByteArray) (a s : Int), n < f → 0 ≤ a → a + 10 * n ≤ 1000000000000 → S.size + n ≤ 26 → Tt (z0e.l1 code f S (n : Int) a s) fun r => r.1.size ≤ 26 ∧ a ≤ r.2.1 ∧ r.2.1 ≤ a + 10 * n := by
  intro n
  induction n with
  | zero =>
   intro f S a s hf ha ha2 hS
   obtain ⟨f, rfl⟩ := Nat.exists_eq_succ_of_ne_zero (show f ≠ 0 by omega)
   rw [z0e.l1, if_neg (by simp)]
   exact .one ⟨by dsimp only; omega, by dsimp only; omega, by dsimp only; omega⟩
  | succ n ih =>
   intro f S a s hf ha ha2 hS
   obtain ⟨f, rfl⟩ := Nat.exists_eq_succ_of_ne_zero (show f ≠ 0 by omega)
   rw [z0e.l1, if_pos (by simp <;> omega)]
   refine (Tt.one (Φ := fun b => b = decide ((S.size : Int) > 0)) rfl).bind fun b hb => ?_
   refine Tt.ite (fun h => ?_) (fun _ => .one ⟨by dsimp only; omega, by dsimp only; omega, by dsimp only; omega⟩)
   have hS0 : 0 < S.size := by rw [h] at hb; simpa using hb
   refine Tt.bind (Φ := fun r : ByteArray × Int × Int => r.1.size ≤ S.size + 1 ∧ a ≤ r.2.1 ∧ r.2.1 ≤ a + 5) ?_ fun o ho => ?_
   ·refine (t_pick hc ha (by omega)).bind fun x hx => (t_pick hc (by omega) (by omega)).bind fun y hy => ?_
    have hxs := hx.2.1 (by omega)
    refine Tt.ite (fun _ => ?_) (fun _ => Tt.ite (fun _ => ?_) (fun _ => .one ⟨by dsimp only; omega, by dsimp only; omega, by dsimp only; omega⟩))
    ·refine (Tt.cutS (by omega) (by omega) (by omega)).bind fun c1 h1 => ?_
     rw [yp (by omega) (by omega)]
     refine (Tt.cutS (by omega) (by omega) (by omega)).bind fun c2 h2 => ?_
     exact (Tt.cat (by omega)).bind fun c3 h3 => .one ⟨by dsimp only; omega, by dsimp only; omega, by dsimp only; omega⟩
    ·refine (Tt.cutS (by omega) (by omega) (by omega)).bind fun c1 h1 => (Tt.cutS (by omega) (by omega) (by omega)).bind fun c2 h2 => ?_
     refine (t_next hc (by omega) (by omega)).bind fun z hz => ?_
     have e1 : (textB [IntKind.u8.wrap z.1]).size = 1 := size_text _
     exact (Tt.cat (by omega)).bind fun c3 h3 => (Tt.cat (by omega)).bind fun c4 h4 => .one ⟨by dsimp only; omega, by dsimp only; omega, by dsimp only; omega⟩
   ·obtain ⟨S', a', s'⟩ := o
    dsimp only at *
    rw [yp (by omega) (by omega), show ((n + 1 : Nat) : Int) - 1 = (n : Int) by omega]
    exact (ih f S' a' s' (by omega) (by omega) (by omega) (by omega)).mono fun r hr => ⟨hr.1, by omega, by omega⟩
 obtain ⟨n, b1, s1⟩ := x
 dsimp only at *
 obtain ⟨n, rfl⟩ := Int.eq_ofNat_of_zero_le hx.1
 have hn := hx.2.1 (by decide)
 exact (key n _ S b1 s1 (by omega) (by omega) (by omega) (by omega)).mono fun r hr => ⟨hr.1, by omega, by omega⟩
theorem t_coded {code : List Int} (hc : allW (inK .u8) code) {a s en : Int} (h0 : 0 ≤ a) (h1 : a ≤ 10000000000) : Tt (z0g.f code a s en) fun r => r.1.size ≤ 60 ∧ a ≤ r.2.1 ∧ r.2.1 ≤ a + 200 := by
 unfold z0g.f
 refine (t_pick hc h0 (by omega)).bind fun x hx => ?_
 have key : ∀ (n f : Nat) (l : List Int) (a s : Int), n < f → 0 ≤ a → a + 10 * n ≤ 1000000000000 → l.length + n ≤ 100000 → Tt (z0g.l1 code en f l (n : Int) a s) fun r => r.1.length = l.length + n ∧ a ≤ r.2.1 ∧ r.2.1 ≤ a + 10 * n := by
  intro n
  induction n with
  | zero =>
   intro f l a s hf ha ha2 hl
   obtain ⟨f, rfl⟩ := Nat.exists_eq_succ_of_ne_zero (show f ≠ 0 by omega)
   rw [z0g.l1, if_neg (by simp)]
   exact .one ⟨by dsimp only; omega, by dsimp only; omega, by dsimp only; omega⟩
  | succ n ih =>
   intro f l a s hf ha ha2 hl
   obtain ⟨f, rfl⟩ := Nat.exists_eq_succ_of_ne_zero (show f ≠ 0 by omega)
   rw [z0g.l1, if_pos (by simp <;> omega)]
   refine (t_rune hc ha (by omega)).bind fun x hx => ?_
   refine Tt.bind (Φ := fun r : Int × Int × Int => a ≤ r.2.1 ∧ r.2.1 ≤ a + 6) ?_ fun o ho => ?_
   ·refine Tt.bind (Φ := fun r : Bool × Int × Int => a ≤ r.2.1 ∧ r.2.1 ≤ a + 4) (Tt.ite (fun _ => ?_) (fun _ => .one ⟨by dsimp only; omega, by dsimp only; omega⟩)) fun o ho => ?_
    ·exact (t_one hc (by omega) (by omega)).bind fun y hy => .one ⟨by dsimp only; omega, by dsimp only; omega⟩
    ·obtain ⟨b, a', s'⟩ := o
     dsimp only at *
     refine Tt.ite (fun _ => ?_) (fun _ => .one ⟨by dsimp only; omega, by dsimp only; omega⟩)
     exact (t_among hc (by decide) (by omega) (by omega)).bind fun y hy => .one ⟨by dsimp only; omega, by dsimp only; omega⟩
   ·obtain ⟨r, a', s'⟩ := o
    dsimp only at *
    refine (Tt.app (by simp; omega)).bind fun y hy => ?_
    subst hy
    rw [yp (by omega) (by omega), show ((n + 1 : Nat) : Int) - 1 = (n : Int) by omega]
    exact (ih f _ a' s' (by omega) (by omega) (by omega) (by simp; omega)).mono fun r hr => ⟨by rw [hr.1]; simp; omega, by omega, by omega⟩
 obtain ⟨n, b1, s1⟩ := x
 dsimp only at *
 obtain ⟨n, rfl⟩ := Int.eq_ofNat_of_zero_le hx.1
 have hn := hx.2.1 (by decide)
 refine (key n _ [] b1 s1 (by omega) (by omega) (by omega) (by simp; omega)).bind fun o ho => ?_
 obtain ⟨l, a2, s2⟩ := o
 dsimp only at *
 rw [List.length_nil] at ho
 refine (t_Encode en l (by omega)).bind fun e he => ?_
 refine Tt.bind (Φ := fun r : ByteArray × Int × Int => r.1.size ≤ 51 ∧ a ≤ r.2.1 ∧ r.2.1 ≤ a + 120) ?_ fun o ho => ?_
 ·refine Tt.bind (Φ := fun r : Bool × Int × Int => a ≤ r.2.1 ∧ r.2.1 ≤ a + 66) (Tt.ite (fun _ => .one ⟨by dsimp only; omega, by dsimp only; omega⟩) (fun _ => ?_)) fun o ho => ?_
  ·exact (t_one hc (by omega) (by omega)).bind fun y hy => .one ⟨by dsimp only; omega, by dsimp only; omega⟩
  ·obtain ⟨b, a', s'⟩ := o
   dsimp only at *
   refine Tt.ite (fun _ => ?_) (fun _ => .one ⟨by dsimp only; omega, by dsimp only; omega, by dsimp only; omega⟩)
   exact (t_bytes hc (by omega) (by omega)).bind fun y hy => (Tt.cat (by omega)).bind fun z hz => .one ⟨by dsimp only; omega, by dsimp only; omega, by dsimp only; omega⟩
 obtain ⟨S, a3, s3⟩ := o
 dsimp only at *
 refine Tt.bind (Φ := fun r : ByteArray × Int × Int => r.1.size ≤ 51 ∧ a ≤ r.2.1 ∧ r.2.1 ≤ a + 130) ?_ fun o ho => ?_
 ·refine Tt.bind (Φ := fun r : Bool × Int × Int => (r.1 = true → 0 < S.size) ∧ a ≤ r.2.1 ∧ r.2.1 ≤ a + 125) (Tt.ite (fun h => ?_) (fun _ => .one ⟨(by intro h; cases h), by dsimp only; omega, by dsimp only; omega⟩)) fun o ho => ?_
  ·exact (t_one hc (by omega) (by omega)).bind fun y hy => .one ⟨fun _ => by simpa using h, by dsimp only; omega, by dsimp only; omega⟩
  ·obtain ⟨b, a', s'⟩ := o
   dsimp only at *
   refine Tt.ite (fun hb => ?_) (fun _ => .one ⟨by dsimp only; omega, by dsimp only; omega, by dsimp only; omega⟩)
   have hS := ho.1 hb
   refine (t_pick hc (by omega) (by omega)).bind fun x hx => ?_
   have hxs := hx.2.1 (by omega)
   refine (Tt.cutS (by omega) (by omega) (by omega)).bind fun c1 h1 => ?_
   rw [yp (by omega) (by omega)]
   refine (Tt.cutS (by omega) (by omega) (by omega)).bind fun c2 h2 => ?_
   exact (Tt.cat (by omega)).bind fun c3 h3 => .one ⟨by dsimp only; omega, by dsimp only; omega, by dsimp only; omega⟩
 obtain ⟨S2, a4, s4⟩ := o
 dsimp only at *
 refine Tt.bind (Φ := fun r : ByteArray × Int × Int => r.1.size ≤ 60 ∧ a ≤ r.2.1 ∧ r.2.1 ≤ a + 200) ?_ fun o ho => .one ho
 refine (t_one hc (by omega) (by omega)).bind fun x hx => Tt.ite (fun _ => ?_) (fun _ => .one ⟨by dsimp only; omega, by dsimp only; omega, by dsimp only; omega⟩)
 refine (t_of hc (by decide) (by omega) (by omega)).bind fun y hy => ?_
 have hy1 : y.1.size ≤ 2 := by
  have hm := hy.1
  have : ∀ z ∈ [(⟨#[216, 61]⟩ : ByteArray), (⟨#[61, 216]⟩ : ByteArray), (⟨#[222, 0]⟩ : ByteArray), (⟨#[14]⟩ : ByteArray), (⟨#[15, 97]⟩ : ByteArray), (⟨#[255]⟩ : ByteArray)], z.size ≤ 2 := by decide
  exact this _ hm
 exact (Tt.cat (by omega)).bind fun z hz => .one ⟨by dsimp only; omega, by dsimp only; omega, by dsimp only; omega⟩
theorem w32 {n : Int} (h0 : -2147483648 ≤ n) (h1 : n < 2147483648) : IntKind.i32.wrap n = n := by rw [IntKind.wrap_i32]; omega
theorem or32 (u v i : Nat) (hv : v < 2 ^ i) (hb : 2 ^ i * u + v < 2147483648) : bits .or .i32 ((2 ^ i * u : Nat) : Int) (v : Int) = ((2 ^ i * u + v : Nat) : Int) := by
 unfold bits
 have e1 : BitVec.ofInt IntKind.i32.bits ((2 ^ i * u : Nat) : Int) = BitVec.ofNat 32 (2 ^ i * u) := BitVec.ofInt_natCast 32 _
 have e2 : BitVec.ofInt IntKind.i32.bits (v : Int) = BitVec.ofNat 32 v := BitVec.ofInt_natCast 32 _
 rw [e1, e2]
 dsimp only
 have e3 : (BitVec.ofNat 32 (2 ^ i * u) ||| BitVec.ofNat 32 v).toNat = 2 ^ i * u + v := by
  rw [BitVec.toNat_or, BitVec.toNat_ofNat, BitVec.toNat_ofNat, Nat.mod_eq_of_lt (by omega), Nat.mod_eq_of_lt (by omega)]
  exact (Nat.two_pow_add_eq_or_of_lt (i := i) hv u).symm
 have key : IntKind.i32.wrap (((BitVec.ofNat 32 (2 ^ i * u) ||| BitVec.ofNat 32 v).toNat : Nat) : Int) = ((2 ^ i * u + v : Nat) : Int) := by
  rw [e3, w32 (by omega) (by omega)]
 exact key
end Go.Proofs.YtbeolahmnoeicaaGreatDoor
