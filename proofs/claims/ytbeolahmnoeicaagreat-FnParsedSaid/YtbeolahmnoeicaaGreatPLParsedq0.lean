/- Plain laws of the printed functions. Conditions as each lemma says. -/
import Derived.Test.YtbeolahmnoeicaaGreatPB
import Derived.Test.YtbeolahmnoeicaaGreatWLParsed5
set_option linter.unusedVariables false
set_option linter.unusedSimpArgs false
namespace Go.Proofs.YtbeolahmnoeicaaGreat
open Go Go.Proofs.GL
theorem p_l1In (a b c : Int) : zf.f a b c = some (decide (b ≤ a) && decide (a ≤ c)) := by
 unfold zf.f
 by_cases h : b ≤ a
 ·rw [if_pos (by simpa using h)]; simp [h]
 ·rw [if_neg (by simpa using h)]; simp [h]
theorem p_inRange (a b c : Int) : z0g.f a b c = some (decide (b ≤ a) && decide (a ≤ c)) := by
 unfold z0g.f
 by_cases h : b ≤ a
 ·rw [if_pos (by simpa using h)]; simp [h]
 ·rw [if_neg (by simpa using h)]; simp [h]
def wZ {α : Type} (_ : α) : Int := 0
def wStr (s : ByteArray) : Int := s.size
def wL {α : Type} (w : α → Int) (p : List α) : Int := p.length + sumW w p
def okZ {α : Type} (_ : α) : Prop := True
def okStr (s : ByteArray) : Prop := s.size ≤ maxN
def okL {α : Type} (ok : α → Prop) (p : List α) : Prop := p.length ≤ maxN ∧ ∀ u ∈ p, ok u
theorem wZ_pos {α : Type} (u : α) : 0 ≤ wZ u := Int.le_refl _
theorem wStr_pos (s : ByteArray) : 0 ≤ wStr s := by unfold wStr; omega
theorem wL_pos {α : Type} {w : α → Int} (h : ∀ u, 0 ≤ w u) (p : List α) : 0 ≤ wL w p := by
 have := sumW_pos (w := w) (us := p) fun u _ => h u
 unfold wL
 omega
theorem wL_len {α : Type} {w : α → Int} (h : ∀ u, 0 ≤ w u) (p : List α) : (p.length : Int) ≤ wL w p := by
 have := sumW_pos (w := w) (us := p) fun u _ => h u
 unfold wL
 omega
theorem wL_big {α : Type} {w : α → Int} (h : ∀ u, 0 ≤ w u) {p : List α} (hp : wL w p ≤ 1000000000) : p.length ≤ big := by
 have := wL_len h p
 unfold big
 omega
theorem wL_cap {α : Type} {w : α → Int} (h : ∀ u, 0 ≤ w u) {p : List α} (hp : wL w p ≤ 1000000000) {n : Nat} (hn : 1000000000 ≤ n) : p.length ≤ n := by
 have := wL_len h p
 omega
theorem wL_mem {α : Type} {w : α → Int} (h : ∀ u, 0 ≤ w u) {p : List α} (hp : wL w p ≤ 1000000000) {u : α} (hu : u ∈ p) : w u ≤ 1000000000 := by
 have := sumW_mem (w := w) (us := p) (fun u _ => h u) u hu
 unfold wL at hp
 omega
theorem sumW_zero {α : Type} {w : α → Int} : ∀ p : List α, (∀ u, w u = 0) → sumW w p = 0
 | [], _ => rfl
 | u :: us, h => by
  have := sumW_zero us h
  have := h u
  unfold sumW
  omega
theorem wL_int (p : List Int) : wL wZ p = p.length := by
 have := sumW_zero (w := wZ) p fun _ => rfl
 unfold wL
 omega
theorem rd_mid {α : Type} (pre : List α) (u : α) (us : List α) : rd? (pre ++ u :: us) (pre.length : Int) = some u := by rw [rd?_at (by simp)]; simp
theorem st_mid {α : Type} (pre : List α) (u v : α) (us : List α) : st? (pre ++ u :: us) (pre.length : Int) v = some (pre ++ v :: us) := by rw [st?_at _ (by simp)]; simp
theorem p_l1All (p : List Int) (a b : Int) (hp : p.length ≤ big) : zj.f p a b = some (p.all fun u => decide (a ≤ u) && decide (u ≤ b)) := by
 unfold zj.f
 have := all_loop p hp (fun u => !(decide (a ≤ u) && decide (u ≤ b))) false (zj.l1 p a b) (fun k i => by rw [zj.l1]; simp only [p_l1In, Option.bind_some]) (((p.length : Int) - 0).toNat + 2) 0 (by omega) (by omega)
 rw [show ((0 : Nat) : Int) = 0 from rfl] at this
 rw [this, List.drop_zero]
 have e : p.any (fun u => !(decide (a ≤ u) && decide (u ≤ b))) = !p.all fun u => decide (a ≤ u) && decide (u ≤ b) := by rw [List.all_eq_not_any_not]; simp
 rw [e]
 cases h : p.all fun u => decide (a ≤ u) && decide (u ≤ b) <;> simp
def okT : Int → List Int → Bool
 | _, [] => true
 | L, [x] => decide (L ≤ x) && decide (x ≤ 1114111)
 | L, x :: y :: r => (decide (L ≤ x) && decide (x ≤ 1114111)) && (decide (x ≤ y) && decide (y ≤ 1114111)) && okT (y + 2) r
def okSet (s : List Int) : Bool := okT 0 s && decide (s.length % 2 = 0) && decide (s.length ≤ 24)
theorem okT_all : ∀ (s : List Int) (L : Int), 0 ≤ L → okT L s = true → ∀ x ∈ s, 0 ≤ x ∧ x ≤ 1114111
 | [], L, _, _, x, hx => by cases hx
 | [y], L, h0, h, x, hx => by
  simp only [okT, Bool.and_eq_true, decide_eq_true_eq] at h
  rw [List.mem_singleton.1 hx]
  omega
 | y :: z :: r, L, h0, h, x, hx => by
  simp only [okT, Bool.and_eq_true, decide_eq_true_eq] at h
  rcases List.mem_cons.1 hx with rfl | hx
  ·omega
  ·rcases List.mem_cons.1 hx with rfl | hx
   ·omega
   ·exact okT_all r (z + 2) (by omega) h.2 x hx
theorem rem2 (n : Nat) : rem? (n : Int) 2 = some (((n % 2 : Nat)) : Int) := by
 unfold rem?
 rw [if_neg (by decide), Int.tmod_eq_emod_of_nonneg (by omega)]
 congr 1
theorem p_implSet_l : ∀ (n : Nat) (rest pre : List Int) (L : Int), rest.length ≤ n → pre.length + rest.length ≤ big → pre.length % 2 = 0 → (pre = [] ∧ L = 0 ∨ ∃ q l, pre = q ++ [l] ∧ L = l + 2 ∧ 0 ≤ l ∧ l ≤ 1114111) → ∀ k, rest.length < k → z0h.l1 (pre ++ rest) k pre.length = some (if okT L rest then .go () else .ret false) := by
 intro n
 induction n with
 | zero =>
  intro rest pre L hn hb he hL k hk
  obtain rfl : rest = [] := List.eq_nil_of_length_eq_zero (by omega)
  obtain ⟨k, rfl⟩ := Nat.exists_eq_succ_of_ne_zero (show k ≠ 0 by omega)
  rw [z0h.l1, if_neg (by simp)]
  rfl
 | succ n ih =>
  intro rest pre L hn hb he hL k hk
  obtain ⟨k, rfl⟩ := Nat.exists_eq_succ_of_ne_zero (show k ≠ 0 by omega)
  cases rest with
  | nil =>
   rw [z0h.l1, if_neg (by simp)]
   rfl
  | cons x r =>
   unfold big at hb
   simp only [List.length_cons] at hn hb hk
   rw [z0h.l1, if_pos (by rw [decide_eq_true_eq]; simp only [List.length_append, List.length_cons]; omega), rd_mid]
   simp only [Option.bind_some]
   -- the first of two
   have e1 : ((if (decide ((pre.length : Int) > 0)) = true then ((rem? (pre.length : Int) 2).bind fun u437 => some (u437 == 0)) else (some false)).bind fun (o : Bool) => match o with | x435 => (if x435 = true then ((rd? (pre ++ x :: r) (IntKind.i64.wrap ((pre.length : Int) - 1))).bind fun u440 => some (IntKind.i64.wrap (u440 + 2))) else (if (decide ((pre.length : Int) > 0)) = true then ((rd? (pre ++ x :: r) (IntKind.i64.wrap ((pre.length : Int) - 1))).bind fun u443 => some u443) else (some 0)))) = some L := by
    rcases hL with ⟨rfl, rfl⟩ | ⟨q, l, rfl, rfl, l0, l1⟩
    ·rfl
    ·rw [rem2, he]
     have hp : decide ((((q ++ [l]).length : Nat) : Int) > 0) = true := by simp
     rw [hp]
     simp only [if_true, Option.bind_some]
     rw [if_pos (by decide), yv (n := (((q ++ [l]).length : Nat) : Int) - 1) (by simp <;> omega) (by simp at hb ⊢; omega)]
     have : (((q ++ [l]).length : Nat) : Int) - 1 = (q.length : Int) := by simp
     rw [this, List.append_assoc]
     show ((rd? (q ++ l :: (x :: r)) (q.length : Int)).bind _) = _
     rw [rd_mid]
     simp only [Option.bind_some]
     rw [yv (by omega) (by omega)]
   rw [e1]
   simp only [Option.bind_some, p_inRange]
   have hL0 : 0 ≤ L := by
    rcases hL with ⟨_, rfl⟩ | ⟨_, l, _, rfl, l0, l1⟩ <;> omega
   by_cases hx : L ≤ x ∧ x ≤ 1114111
   ·have c1 : (decide (L ≤ x) && decide (x ≤ 1114111)) = true := by simp [hx]
    rw [c1]
    simp only [Bool.not_true, Bool.false_eq_true, if_false]
    rw [y03 pre.length (by omega)]
    cases r with
    | nil =>
     obtain ⟨k, rfl⟩ := Nat.exists_eq_succ_of_ne_zero (show k ≠ 0 by simp at hk; omega)
     rw [z0h.l1, if_neg (by simp)]
     simp only [okT, c1, if_true]
    | cons y r =>
     simp only [List.length_cons] at hn hb hk
     obtain ⟨k, rfl⟩ := Nat.exists_eq_succ_of_ne_zero (show k ≠ 0 by omega)
     have hl1 : ((pre.length + 1 : Nat) : Int) = ((pre ++ [x]).length : Int) := by simp
     have ha : pre ++ x :: y :: r = (pre ++ [x]) ++ y :: r := by simp
     rw [z0h.l1, hl1, ha, if_pos (by rw [decide_eq_true_eq]; simp only [List.length_append, List.length_cons]; omega), rd_mid]
     simp only [Option.bind_some]
     have e2 : ((if (decide ((((pre ++ [x]).length : Nat) : Int) > 0)) = true then ((rem? (((pre ++ [x]).length : Nat) : Int) 2).bind fun u437 => some (u437 == 0)) else (some false)).bind fun (o : Bool) => match o with | x435 => (if x435 = true then ((rd? ((pre ++ [x]) ++ y :: r) (IntKind.i64.wrap ((((pre ++ [x]).length : Nat) : Int) - 1))).bind fun u440 => some (IntKind.i64.wrap (u440 + 2))) else (if (decide ((((pre ++ [x]).length : Nat) : Int) > 0)) = true then ((rd? ((pre ++ [x]) ++ y :: r) (IntKind.i64.wrap ((((pre ++ [x]).length : Nat) : Int) - 1))).bind fun u443 => some u443) else (some 0)))) = some x := by
      rw [rem2]
      have hp : decide ((((pre ++ [x]).length : Nat) : Int) > 0) = true := by simp
      have hm : (pre ++ [x]).length % 2 = 1 := by simp; omega
      rw [hp, hm]
      simp only [if_true, Option.bind_some]
      rw [if_neg (by decide), yv (n := (((pre ++ [x]).length : Nat) : Int) - 1) (by simp <;> omega) (by simp <;> omega)]
      have : (((pre ++ [x]).length : Nat) : Int) - 1 = (pre.length : Int) := by simp
      rw [this, List.append_assoc]
      show ((rd? (pre ++ x :: (y :: r)) (pre.length : Int)).bind _) = _
      rw [rd_mid]
      rfl
     rw [e2]
     simp only [Option.bind_some, p_inRange]
     by_cases hy : x ≤ y ∧ y ≤ 1114111
     ·have c2 : (decide (x ≤ y) && decide (y ≤ 1114111)) = true := by simp [hy]
      rw [c2]
      simp only [Bool.not_true, Bool.false_eq_true, if_false]
      have hl2 : IntKind.i64.wrap ((((pre ++ [x]).length : Nat) : Int) + 1) = ((pre ++ [x] ++ [y]).length : Int) := by rw [yv (by simp <;> omega) (by simp <;> omega)]; simp only [List.length_append, List.length_singleton]; omega
      have ha2 : (pre ++ [x]) ++ y :: r = (pre ++ [x] ++ [y]) ++ r := by simp
      rw [hl2, ha2, ih r (pre ++ [x] ++ [y]) (y + 2) (by omega) (by simp [big]; omega) (by simp; omega) (.inr ⟨pre ++ [x], y, rfl, rfl, by omega, by omega⟩) k (by omega)]
      simp only [okT, c1, c2, Bool.and_self, Bool.true_and]
     ·have c2 : (decide (x ≤ y) && decide (y ≤ 1114111)) = false := by
       rw [Bool.and_eq_false_iff, decide_eq_false_iff_not, decide_eq_false_iff_not]; omega
      rw [c2]
      simp only [okT, c1, c2, Bool.false_and, Bool.and_false, Bool.not_false, if_true, Option.bind_some, Bool.false_eq_true, if_false]
   ·have c1 : (decide (L ≤ x) && decide (x ≤ 1114111)) = false := by
     rw [Bool.and_eq_false_iff, decide_eq_false_iff_not, decide_eq_false_iff_not]; omega
    rw [c1]
    have : okT L (x :: r) = false := by
     cases r with
     | nil => simp only [okT, c1]
     | cons y r => simp only [okT, c1, Bool.false_and]
    rw [this]
    rfl
theorem p_implSet (s : List Int) (hs : s.length ≤ big) : z0h.f s = some (okSet s) := by
 unfold z0h.f
 have := p_implSet_l s.length s [] 0 (Nat.le_refl _) (by simpa using hs) rfl (.inl ⟨rfl, rfl⟩) (((s.length : Int) - 0).toNat + 2) (by omega)
 rw [List.nil_append, show ((([] : List Int).length : Nat) : Int) = 0 from rfl] at this
 rw [this, rem2]
 unfold okSet
 cases okT 0 s with
 | false => rfl
 | true =>
  simp only [if_true, Option.bind_some, Bool.true_and]
  by_cases h : s.length % 2 = 0
  ·rw [h, if_pos (by decide)]
   simp
   omega
  ·rw [if_neg (by simp; omega)]
   simp [h]
theorem p_specSet_l : ∀ (n : Nat) (rest pre : List Int) (L : Int), rest.length ≤ n → pre.length + rest.length ≤ big → rest.length % 2 = 0 → (∀ x ∈ rest, 0 ≤ x ∧ x ≤ 1114111) → (pre = [] ∧ L = 0 ∨ ∃ q l, pre = q ++ [l] ∧ L = l + 2 ∧ 0 ≤ l ∧ l ≤ 1114111) → ∀ k, rest.length < k → zk.l1 (pre ++ rest) k pre.length = some (if okT L rest then .go () else .ret false) := by
 intro n
 induction n with
 | zero =>
  intro rest pre L hn hb he hr hL k hk
  obtain rfl : rest = [] := List.eq_nil_of_length_eq_zero (by omega)
  obtain ⟨k, rfl⟩ := Nat.exists_eq_succ_of_ne_zero (show k ≠ 0 by omega)
  rw [zk.l1, if_neg (by simp)]
  rfl
 | succ n ih =>
  intro rest pre L hn hb he hr hL k hk
  obtain ⟨k, rfl⟩ := Nat.exists_eq_succ_of_ne_zero (show k ≠ 0 by omega)
  match rest, hn, hb, he, hr, hk with
  | [], _, _, _, _, _ =>
   rw [zk.l1, if_neg (by simp)]
   rfl
  | [x], _, _, he, _, _ => simp at he
  | x :: y :: r, hn, hb, he, hr, hk =>
   unfold big at hb
   simp only [List.length_cons] at hn hb hk he
   have hx := hr x (by simp)
   have hy := hr y (by simp)
   have ha : pre ++ x :: y :: r = (pre ++ [x]) ++ y :: r := by simp
   have hl1 : IntKind.i64.wrap ((pre.length : Int) + 1) = ((pre ++ [x]).length : Int) := by rw [yv (by omega) (by omega)]; simp only [List.length_append, List.length_singleton]; omega
   have ry : rd? (pre ++ x :: y :: r) (IntKind.i64.wrap ((pre.length : Int) + 1)) = some y := by rw [hl1, ha, rd_mid]
   rw [zk.l1, if_pos (by rw [decide_eq_true_eq]; simp only [List.length_append, List.length_cons]; omega), rd_mid, ry]
   simp only [Option.bind_some]
   have e1 : (if (decide ((pre.length : Int) > 0)) = true then ((rd? (pre ++ x :: y :: r) (IntKind.i64.wrap ((pre.length : Int) - 1))).bind fun u269 => some (decide (x < (IntKind.i64.wrap (u269 + 2))))) else (some false)) = some (decide (x < L)) := by
    rcases hL with ⟨rfl, rfl⟩ | ⟨q, l, rfl, rfl, l0, l1⟩
    ·have : decide (x < 0) = false := by simp; omega
     rw [this]; rfl
    ·rw [if_pos (by simp), yv (n := (((q ++ [l]).length : Nat) : Int) - 1) (by simp <;> omega) (by simp at hb ⊢; omega)]
     have : (((q ++ [l]).length : Nat) : Int) - 1 = (q.length : Int) := by simp
     rw [this, List.append_assoc]
     show ((rd? (q ++ l :: (x :: y :: r)) (q.length : Int)).bind _) = _
     rw [rd_mid]
     simp only [Option.bind_some]
     rw [yv (by omega) (by omega)]
   rw [e1]
   have c0 : decide (x ≤ 1114111) = true := by simp; omega
   have c3 : decide (y ≤ 1114111) = true := by simp; omega
   by_cases hxy : x > y
   ·rw [if_pos (by simpa using hxy)]
    have : decide (x ≤ y) = false := by simp; omega
    simp only [okT, this, Bool.false_and, Bool.and_false, Option.bind_some, if_true, Bool.false_eq_true, if_false]
   ·have c1 : decide (x ≤ y) = true := by simp; omega
    rw [if_neg (by simpa using hxy)]
    simp only [Option.bind_some]
    by_cases hxl : x < L
    ·have c2 : decide (L ≤ x) = false := by simp; omega
     rw [if_pos (by simpa using hxl)]
     simp only [okT, c2, Bool.false_and, Option.bind_some, Bool.false_eq_true, if_false]
    ·have c2 : decide (L ≤ x) = true := by simp; omega
     rw [if_neg (by simpa using hxl)]
     have hl2 : IntKind.i64.wrap ((pre.length : Int) + 2) = ((pre ++ [x] ++ [y]).length : Int) := by rw [yv (by omega) (by omega)]; simp only [List.length_append, List.length_singleton]; omega
     have ha2 : pre ++ x :: y :: r = (pre ++ [x] ++ [y]) ++ r := by simp
     rw [hl2, ha2, ih r (pre ++ [x] ++ [y]) (y + 2) (by omega) (by simp [big]; omega) (by omega) (fun z hz => hr z (by simp [hz])) (.inr ⟨pre ++ [x], y, rfl, rfl, by omega, by omega⟩) k (by omega)]
     simp only [okT, c0, c1, c2, c3, Bool.and_self, Bool.true_and]
theorem p_specSet (s : List Int) (hs : s.length ≤ big) : zk.f s = some (okSet s) := by
 unfold zk.f
 rw [rem2, p_l1All s 0 1114111 hs]
 unfold okSet
 by_cases h1 : s.length % 2 = 1
 ·rw [h1]
  simp [h1]
 ·have h2 : s.length % 2 = 0 := by omega
  rw [h2]
  simp only [Option.bind_some]
  rw [if_neg (by decide)]
  by_cases h3 : (s.length : Int) > 24
  ·rw [if_pos (by simpa using h3)]
   have : decide (s.length ≤ 24) = false := by simp; omega
   rw [this, Bool.and_false]
   rfl
  ·have d3 : decide (s.length ≤ 24) = true := by simp; omega
   rw [if_neg (by simpa using h3), d3]
   simp only [Option.bind_some]
   cases h4 : (s.all fun u => decide (0 ≤ u) && decide (u ≤ 1114111)) with
   | false =>
    have : okT 0 s = false := by
     by_cases h : okT 0 s = true
     ·have h5 := okT_all s 0 (by omega) h
      have : (s.all fun u => decide (0 ≤ u) && decide (u ≤ 1114111)) = true := by
       rw [List.all_eq_true]
       intro x hx
       have := h5 x hx
       simp; omega
      rw [this] at h4; cases h4
     ·simpa using h
    rw [this]
    rfl
   | true =>
    have hr : ∀ x ∈ s, 0 ≤ x ∧ x ≤ 1114111 := fun x hx => by
     have := (List.all_eq_true.1 h4) x hx
     simpa using this
    have := p_specSet_l s.length s [] 0 (Nat.le_refl _) (by simpa using hs) h2 hr (.inl ⟨rfl, rfl⟩) (((s.length : Int) - 0).toNat + 2) (by omega)
    rw [List.nil_append, show ((([] : List Int).length : Nat) : Int) = 0 from rfl] at this
    simp only [Bool.not_true, Bool.false_eq_true, if_false, this, Option.bind_some]
    cases okT 0 s <;> simp
def okRune (r : Int) : Bool := decide (0 ≤ r) && decide (r ≤ 1114111) && !(decide (55296 ≤ r) && decide (r ≤ 57343))
theorem p_specRune (r : Int) : zg.f r = some (okRune r) := by
 unfold zg.f okRune
 simp only [p_l1In, Option.bind_some]
 cases (decide (0 ≤ r) && decide (r ≤ 1114111)) <;> rfl
theorem p_implRune (r : Int) : z0i.f r = some (okRune r) := by
 unfold z0i.f okRune
 simp only [p_inRange, Option.bind_some]
 cases (decide (0 ≤ r) && decide (r ≤ 1114111)) <;> rfl
theorem p_allRunes (p : List Int) (hp : p.length ≤ big) : zh.f p = some (p.all okRune && decide (p.length ≤ 1000)) := by
 unfold zh.f
 have := all_loop p hp (fun u => !okRune u) false (zh.l1 p) (fun k i => by rw [zh.l1]; simp only [p_specRune, Option.bind_some]) (((p.length : Int) - 0).toNat + 2) 0 (by omega) (by omega)
 rw [show ((0 : Nat) : Int) = 0 from rfl] at this
 rw [this, List.drop_zero]
 have e : p.any (fun u => !okRune u) = !p.all okRune := by rw [List.all_eq_not_any_not]; simp
 rw [e]
 cases h : p.all okRune <;> simp
 omega
abbrev Nd := Int × List Int
/-- How many parts a node has. -/
def ar (k : Int) : Int := if k = 1 ∨ k = 2 then 0 else if k = 6 ∨ k = 7 then 1 else if k = 3 ∨ k = 4 ∨ k = 5 then 2 else -1
theorem p_partsOf (k : Int) : z0p.f k = some (ar k) := by
 unfold z0p.f ar
 by_cases h1 : k = 1
 ·subst h1; rfl
 ·by_cases h2 : k = 2
  ·subst h2; rfl
  ·by_cases h6 : k = 6
   ·subst h6; rfl
   ·by_cases h7 : k = 7
    ·subst h7; rfl
    ·by_cases h3 : k = 3
     ·subst h3; rfl
     ·by_cases h4 : k = 4
      ·subst h4; rfl
      ·by_cases h5 : k = 5
       ·subst h5; rfl
       ·simp [h1, h2, h3, h4, h5, h6, h7]
theorem p_arity (k : Int) : zl.f k = some (ar k) := by
 unfold zl.f ar
 by_cases h1 : k = 1
 ·subst h1; rfl
 ·by_cases h2 : k = 2
  ·subst h2; rfl
  ·by_cases h6 : k = 6
   ·subst h6; rfl
   ·by_cases h7 : k = 7
    ·subst h7; rfl
    ·by_cases h3 : k = 3
     ·subst h3; rfl
     ·by_cases h4 : k = 4
      ·subst h4; rfl
      ·by_cases h5 : k = 5
       ·subst h5; rfl
       ·simp [h1, h2, h3, h4, h5, h6, h7]
theorem ar_bd (k : Int) : -1 ≤ ar k ∧ ar k ≤ 2 := by unfold ar; split <;> (try split) <;> (try split) <;> omega
def okNd (u : Nd) : Bool := okSet u.2 && u.2.all okRune && (u.1 == 2 || decide (u.2.length = 0))
theorem okSet_len {s : List Int} (h : okSet s = true) : s.length ≤ 24 := by
 simp only [okSet, Bool.and_eq_true, decide_eq_true_eq] at h
 exact h.2
theorem p_implNd_1 (p : List Int) (hp : p.length ≤ big) : z0l.f p = some (!p.all okRune) := by
 unfold z0l.f z0k.f
 have := scan_loop p hp (fun u => !okRune u) (fun i _ => i) (z0k.l1 p) (fun k i => by rw [z0k.l1]; simp only [z0j.f, p_implRune, Option.bind_some]) (((p.length : Int) - 0).toNat + 2) 0 (by omega) (by omega)
 rw [show ((0 : Nat) : Int) = 0 from rfl] at this
 rw [this, List.drop_zero]
 have e : p.all okRune = !(p.any fun u => !okRune u) := List.all_eq_not_any_not
 rw [e, Bool.not_not]
 cases hf : p.findIdx? (fun u => !okRune u) with
 | none =>
  have : p.any (fun u => !okRune u) = false := by
   rw [List.findIdx?_eq_none_iff] at hf
   simpa using hf
  rw [this]; simp
 | some j =>
  obtain ⟨hj, h1, h2⟩ := List.findIdx?_eq_some_iff_getElem.1 hf
  have : p.any (fun u => !okRune u) = true := List.any_eq_true.2 ⟨_, List.getElem_mem hj, h1⟩
  rw [this]
  simp [hj]
theorem p_implNd (u : Nd) (hu : u.2.length ≤ big) : z0m.f u.1 u.2 = some (!okNd u) := by
 unfold z0m.f okNd
 rw [p_implSet u.2 hu, p_implNd_1 u.2 hu]
 simp only [Option.bind_some]
 cases okSet u.2 with
 | false => rfl
 | true =>
  cases u.2.all okRune with
  | false => rfl
  | true =>
   simp only [Bool.not_true, Bool.false_eq_true, if_false, Bool.true_and]
   by_cases h : u.1 = 2
   ·simp [h]
   ·have h1 : (u.1 != 2) = true := by simpa using h
    have h2 : (u.1 == 2) = false := by simpa using h
    rw [h1, h2]
    simp only [if_true, Bool.false_or]
    by_cases hl : u.2.length = 0
    ·simp [hl]
    ·have := Nat.pos_of_ne_zero hl
     simp [hl, this]
theorem p_specNd (u : Nd) (hu : u.2.length ≤ big) : zp.f u.1 u.2 = some (decide (0 ≤ ar u.1) && okNd u) := by
 unfold zp.f okNd
 rw [p_arity, p_specSet u.2 hu, p_allRunes u.2 hu]
 simp only [Option.bind_some]
 by_cases ha : ar u.1 < 0
 ·have h0 : decide (0 ≤ ar u.1) = false := by simp; omega
  rw [if_pos (by simpa using ha), h0]
  rfl
 ·have h0 : decide (0 ≤ ar u.1) = true := by simp; omega
  rw [if_neg (by simpa using ha), h0]
  cases hs : okSet u.2 with
  | false =>
   simp only [Bool.false_and, Bool.and_false]
   by_cases h : u.1 = 2
   ·simp [h]
   ·by_cases hl : (u.2.length : Int) > 0 <;> simp [h, hl]
  | true =>
   have hl := okSet_len hs
   have d : decide (u.2.length ≤ 1000) = true := by simp; omega
   rw [d, Bool.and_true]
   by_cases h : u.1 = 2
   ·simp [h]
   ·by_cases hl2 : u.2.length = 0
    ·simp [h, hl2]
    ·have h1 : (u.1 == 2) = false := by simpa using h
     have := Nat.pos_of_ne_zero hl2
     simp [h, h1, hl2, this]
/-- Nodes, put on a pile of their last parts. -/
def pileR : List Nd → Int → List Int → List (List Int) → Option (List (List Int) × List Int)
 | [], _, pile, out => some (out, pile)
 | u :: us, i, pile, out => if ar u.1 < 0 ∨ ar u.1 > pile.length then none else pileR us (i + 1) (pile.take (pile.length - (ar u.1).toNat) ++ [i]) (out ++ [pile.drop (pile.length - (ar u.1).toNat)])
def okRe (p : List Nd) : Bool := (decide (1 ≤ (p.length : Int)) && decide ((p.length : Int) ≤ 40)) && p.all okNd && (match pileR p 0 [] [] with | some (_, pile) => ((pile.length : Int) == 1) | none => false)
theorem p_parts_l : ∀ (rest pre : List Nd) (pile : List Int) (out : List (List Int)), pre.length + rest.length ≤ 1000000 → pile.length ≤ pre.length → out.length = pre.length → ∀ k, rest.length < k → z0r.l1 (pre ++ rest) k out pile pre.length = some (match pileR rest pre.length pile out with | some (o, q) => .go (o, q) | none => .ret ([], false)) := by
 intro rest
 induction rest with
 | nil =>
  intro pre pile out hb hp ho k hk
  obtain ⟨k, rfl⟩ := Nat.exists_eq_succ_of_ne_zero (show k ≠ 0 by omega)
  rw [z0r.l1, if_neg (by simp)]
  rfl
 | cons u us ih =>
  intro pre pile out hb hp ho k hk
  obtain ⟨k, rfl⟩ := Nat.exists_eq_succ_of_ne_zero (show k ≠ 0 by omega)
  simp only [List.length_cons] at hb hk
  rw [z0r.l1, if_pos (by rw [decide_eq_true_eq]; simp only [List.length_append, List.length_cons]; omega), rd_mid]
  simp only [Option.bind_some, p_partsOf]
  unfold pileR
  have hbd := ar_bd u.1
  by_cases h1 : ar u.1 < 0
  ·rw [if_pos (by simpa using h1), if_pos (.inl h1)]
   rfl
  ·rw [if_neg (by simpa using h1)]
   simp only [Option.bind_some]
   by_cases h2 : ar u.1 > pile.length
   ·rw [if_pos (by simpa using h2), if_pos (.inr h2)]
    try rfl
   ·rw [if_neg (by simpa using h2), if_neg (by omega)]
    obtain ⟨m, hm⟩ := Int.eq_ofNat_of_zero_le (show 0 ≤ ar u.1 by omega)
    rw [hm] at h2 ⊢
    have hml : m ≤ pile.length := by omega
    rw [yv (n := (pile.length : Int) - m) (by omega) (by omega), show (pile.length : Int) - m = ((pile.length - m : Nat) : Int) by omega, Int.toNat_natCast]
    have c1 := cut?_at (xs := pile) (a := pile.length - m) (b := pile.length) (by omega) (Nat.le_refl _)
    have c2 := cut?_at (xs := pile) (a := 0) (b := pile.length - m) (by omega) (by omega)
    rw [show ((0 : Nat) : Int) = 0 from rfl] at c2
    rw [c1, c2]
    simp only [Option.bind_some, List.take_length, List.drop_zero, z0q.f]
    rw [app?_at (by simp; omega)]
    simp only [Option.bind_some, List.nil_append]
    rw [app?_at (by simp; omega)]
    simp only [Option.bind_some]
    rw [app?_at (by simp; omega)]
    simp only [Option.bind_some]
    rw [y03 pre.length (by omega)]
    have := ih (pre ++ [u]) (pile.take (pile.length - m) ++ [(pre.length : Int)]) (out ++ [pile.drop (pile.length - m)]) (by simp; omega) (by simp; omega) (by simp [ho]) k (by omega)
    simp only [List.length_append, List.length_cons, List.length_nil, Nat.zero_add, List.append_assoc, List.cons_append, List.nil_append] at this
    rw [this]
    rfl
theorem p_parts (p : List Nd) (hp : p.length ≤ 1000000) : z0r.f p = some (match pileR p 0 [] [] with | some (o, q) => (o, ((q.length : Int) == 1)) | none => ([], false)) := by
 unfold z0r.f
 have := p_parts_l p [] [] [] (by simpa using hp) (Nat.le_refl _) rfl (((p.length : Int) - 0).toNat + 2) (by omega)
 rw [List.nil_append, show ((([] : List Nd).length : Nat) : Int) = 0 from rfl] at this
 rw [this]
 cases pileR p 0 [] [] with
 | none => rfl
 | some o => rfl
theorem p_implRe (p : List Nd) (hp : p.length ≤ big) (hq : ∀ u ∈ p, u.2.length ≤ big) : z0s.f p = some (okRe p) := by
 unfold z0s.f okRe
 simp only [p_inRange, Option.bind_some]
 cases h1 : (decide (1 ≤ (p.length : Int)) && decide ((p.length : Int) ≤ 40)) with
 | false => rfl
 | true =>
  have hl : p.length ≤ 40 := by simp only [Bool.and_eq_true, decide_eq_true_eq] at h1; omega
  simp only [Bool.not_true, Bool.false_eq_true, if_false, Bool.true_and]
  have key : z0o.f p = some (!p.all okNd) := by
   unfold z0o.f z0n.f
   have key : ∀ (k i : Nat), i ≤ p.length → p.length - i < k → ∃ o, z0n.l1 p k i = some o ∧ (if (p.drop i).all okNd then o = .go () else ∃ n : Int, 0 ≤ n ∧ o = .ret n) := by
    intro k
    induction k with
    | zero => intro i _ h; omega
    | succ k ih =>
     intro i hi hk
     rw [z0n.l1]
     by_cases h : i < p.length
     ·rw [if_pos (by simpa using h), rd?_at h]
      simp only [Option.bind_some]
      rw [p_implNd _ (hq _ (List.getElem_mem h))]
      simp only [Option.bind_some]
      rw [List.drop_eq_getElem_cons h, List.all_cons]
      cases hr : okNd p[i] with
      | false => exact ⟨.ret i, by simp, by simp⟩
      | true =>
       simp only [Bool.not_true, Bool.false_eq_true, if_false, Bool.true_and]
       rw [y03 i (by omega)]
       exact ih (i + 1) h (by omega)
     ·rw [if_neg (by simpa using h)]
      exact ⟨_, rfl, by simp [List.drop_eq_nil_of_le (by omega : p.length ≤ i)]⟩
   obtain ⟨o, g1, g2⟩ := key (((p.length : Int) - 0).toNat + 2) 0 (by omega) (by omega)
   rw [show ((0 : Nat) : Int) = 0 from rfl] at g1
   rw [g1]
   rw [List.drop_zero] at g2
   cases hr : p.all okNd with
   | true =>
    rw [hr, if_pos rfl] at g2
    subst g2
    rfl
   | false =>
    rw [hr] at g2
    obtain ⟨m, hm, rfl⟩ := g2
    simp [hm]
  rw [key]
  simp only [Option.bind_some]
  cases p.all okNd with
  | false => rfl
  | true =>
   simp only [Bool.not_true, Bool.false_eq_true, if_false, Bool.true_and]
   rw [p_parts p (by omega)]
   cases pileR p 0 [] [] with
   | none => rfl
   | some o => rfl
/-- The pile's height alone. -/
def highR : List Nd → Int → Option Int
 | [], n => some n
 | u :: us, n => if ar u.1 < 0 ∨ ar u.1 > n then none else highR us (n + (1 - ar u.1))
theorem pile_high : ∀ (us : List Nd) (i : Int) (pile : List Int) (out : List (List Int)), (pileR us i pile out).map (fun o => (o.2.length : Int)) = highR us pile.length
 | [], i, pile, out => rfl
 | u :: us, i, pile, out => by
  unfold pileR highR
  split
  ·rfl
  ·rename_i h
   rw [pile_high us]
   congr 1
   simp
   omega
theorem high_bd : ∀ (us : List Nd) (n d : Int), 0 ≤ n → highR us n = some d → 0 ≤ d ∧ d ≤ n + us.length
 | [], n, d, h0, h => by
  obtain rfl := Option.some.inj h
  simp; omega
 | u :: us, n, d, h0, h => by
  unfold highR at h
  split at h
  ·cases h
  ·have := ar_bd u.1
   have := high_bd us _ d (by omega) h
   simp only [List.length_cons]
   omega
theorem p_l5Good_l : ∀ (rest pre : List Nd) (n : Int), pre.length + rest.length ≤ 1000000 → 0 ≤ n → n ≤ pre.length → (∀ u ∈ rest, u.2.length ≤ big) → ∀ k, rest.length < k → zq.l1 (pre ++ rest) k n pre.length = some (if rest.all okNd then (match highR rest n with | some d => .go d | none => .ret false) else .ret false) := by
 intro rest
 induction rest with
 | nil =>
  intro pre n hb h0 h1 hq k hk
  obtain ⟨k, rfl⟩ := Nat.exists_eq_succ_of_ne_zero (show k ≠ 0 by omega)
  rw [zq.l1, if_neg (by simp)]
  rfl
 | cons u us ih =>
  intro pre n hb h0 h1 hq k hk
  obtain ⟨k, rfl⟩ := Nat.exists_eq_succ_of_ne_zero (show k ≠ 0 by omega)
  simp only [List.length_cons] at hb hk
  rw [zq.l1, if_pos (by rw [decide_eq_true_eq]; simp only [List.length_append, List.length_cons]; omega), rd_mid]
  simp only [Option.bind_some]
  rw [p_specNd u (hq u (by simp)), p_arity]
  simp only [Option.bind_some]
  have hbd := ar_bd u.1
  rw [List.all_cons]
  unfold highR
  cases hn : okNd u with
  | false =>
   simp only [Bool.and_false, Bool.not_false, if_true, Option.bind_some, Bool.false_and, Bool.false_eq_true, if_false]
  | true =>
   simp only [Bool.and_true, Bool.true_and]
   by_cases ha : ar u.1 < 0
   ·have : decide (0 ≤ ar u.1) = false := by simp; omega
    rw [this, if_pos (show ar u.1 < 0 ∨ ar u.1 > n from .inl ha)]
    simp only [Bool.not_false, if_true, Option.bind_some]
    split <;> rfl
   ·have : decide (0 ≤ ar u.1) = true := by simp; omega
    rw [this]
    simp only [Bool.not_true, Bool.false_eq_true, if_false, Option.bind_some]
    by_cases hg : n < ar u.1
    ·rw [if_pos (by simpa using hg), if_pos (show ar u.1 < 0 ∨ ar u.1 > n by omega)]
     simp only [Option.bind_some]
     split <;> rfl
    ·rw [if_neg (by simpa using hg), if_neg (show ¬ (ar u.1 < 0 ∨ ar u.1 > n) by omega)]
     rw [yv (n := 1 - ar u.1) (by omega) (by omega), yv (n := n + (1 - ar u.1)) (by omega) (by omega), y03 pre.length (by omega)]
     have := ih (pre ++ [u]) (n + (1 - ar u.1)) (by simp; omega) (by omega) (by simp; omega) (fun v hv => hq v (List.mem_cons_of_mem _ hv)) k (by omega)
     simp only [List.length_append, List.length_cons, List.length_nil, Nat.zero_add, List.append_assoc, List.cons_append, List.nil_append] at this
     exact this
theorem p_specRe (p : List Nd) (hp : p.length ≤ big) (hq : ∀ u ∈ p, u.2.length ≤ big) : zr.f p = some (okRe p) := by
 unfold zr.f okRe
 by_cases h : (p.length : Int) ≤ 40
 ·have d1 : decide ((p.length : Int) ≤ 40) = true := by simpa using h
  rw [if_pos (by simpa using h), d1, Bool.and_true]
  unfold zq.f
  have := p_l5Good_l p [] 0 (by simp; omega) (Int.le_refl _) (Int.le_refl _) hq (((p.length : Int) - 0).toNat + 2) (by omega)
  rw [List.nil_append, show ((([] : List Nd).length : Nat) : Int) = 0 from rfl] at this
  rw [this]
  have hh := pile_high p 0 [] []
  rw [show ((([] : List Int).length : Nat) : Int) = 0 from rfl] at hh
  cases p.all okNd with
  | false => simp
  | true =>
   simp only [if_true, Option.bind_some, Bool.and_true]
   cases hp0 : pileR p 0 [] [] with
   | none =>
    rw [hp0] at hh
    rw [← hh]
    simp
   | some o =>
    rw [hp0] at hh
    rw [← hh]
    simp only [Option.map_some]
    by_cases hz : 1 ≤ (p.length : Int)
    ·have : decide (1 ≤ (p.length : Int)) = true := by simpa using hz
     rw [this]
     rfl
    ·have hnil : p = [] := List.eq_nil_of_length_eq_zero (by omega)
     subst hnil
     have : o = ([], []) := (Option.some.inj hp0).symm
     subst this
     rfl
 ·have d1 : decide ((p.length : Int) ≤ 40) = false := by simpa using h
  rw [if_neg (by simpa using h), d1, Bool.and_false]
  rfl
def okPl (u : Nd) : Bool := !(u.1 == 5 || u.1 == 7)
theorem p_implPlain (p : List Nd) (hp : p.length ≤ big) : z0w.f p = some (p.all okPl) := by
 unfold z0w.f z0v.f z0u.f
 have e1 : ∀ u : Nd, z0t.f u.1 u.2 = some (!okPl u) := fun u => by
  unfold z0t.f okPl
  by_cases h5 : u.1 = 5
  ·simp [h5]
  ·simp [h5]
 have := scan_loop p hp (fun u => !okPl u) (fun i _ => i) (z0u.l1 p) (fun k i => by rw [z0u.l1]; simp only [e1, Option.bind_some]) (((p.length : Int) - 0).toNat + 2) 0 (by omega) (by omega)
 rw [show ((0 : Nat) : Int) = 0 from rfl] at this
 rw [this, List.drop_zero]
 have e : p.all okPl = !(p.any fun u => !okPl u) := List.all_eq_not_any_not
 rw [e]
 cases hf : p.findIdx? (fun u => !okPl u) with
 | none =>
  have : p.any (fun u => !okPl u) = false := by
   rw [List.findIdx?_eq_none_iff] at hf
   simpa using hf
  rw [this]; simp
 | some j =>
  obtain ⟨hj, h1, h2⟩ := List.findIdx?_eq_some_iff_getElem.1 hf
  have : p.any (fun u => !okPl u) = true := List.any_eq_true.2 ⟨_, List.getElem_mem hj, h1⟩
  rw [this]
  simp [hj]
theorem p_specPlain (p : List Nd) (hp : p.length ≤ big) (hq : ∀ u ∈ p, u.2.length ≤ big) : zt.f p = some (okRe p && p.all okPl, okRe p) := by
 unfold zt.f
 rw [p_specRe p hp hq]
 simp only [Option.bind_some]
 cases okRe p with
 | false => rfl
 | true =>
  simp only [Bool.not_true, Bool.false_eq_true, if_false, Bool.true_and]
  have := all_loop p hp (fun u => !okPl u) (false, true) (zt.l1 p) (fun k i => by
   rw [zt.l1]
   split
   ·cases rd? p i with
    | none => rfl
    | some u =>
     simp only [Option.bind_some]
     unfold okPl
     by_cases h5 : u.1 = 5
     ·simp [h5]
     ·by_cases h7 : u.1 = 7 <;> simp [h5, h7]
   ·rfl) (((p.length : Int) - 0).toNat + 2) 0 (by omega) (by omega)
  rw [show ((0 : Nat) : Int) = 0 from rfl] at this
  rw [this, List.drop_zero]
  have e : p.any (fun u => !okPl u) = !p.all okPl := by rw [List.all_eq_not_any_not]; simp
  rw [e]
  cases p.all okPl <;> simp
theorem p_areRunes (p : List Int) (n : Int) (hp : p.length ≤ big) : z10.f p n = some (decide ((p.length : Int) ≤ n) && p.all okRune) := by
 unfold z10.f z0z.f z0y.f
 by_cases h : (p.length : Int) ≤ n
 ·rw [if_pos (by simpa using h)]
  have := scan_loop p hp (fun u => !okRune u) (fun i _ => i) (z0y.l1 p) (fun k i => by rw [z0y.l1]; simp only [z0x.f, p_implRune, Option.bind_some]) (((p.length : Int) - 0).toNat + 2) 0 (by omega) (by omega)
  rw [show ((0 : Nat) : Int) = 0 from rfl] at this
  rw [this, List.drop_zero]
  have e : p.all okRune = !(p.any fun u => !okRune u) := List.all_eq_not_any_not
  rw [e]
  cases hf : p.findIdx? (fun u => !okRune u) with
  | none =>
   have : p.any (fun u => !okRune u) = false := by
    rw [List.findIdx?_eq_none_iff] at hf
    simpa using hf
   rw [this]; simp [h]
  | some j =>
   obtain ⟨hj, h1, h2⟩ := List.findIdx?_eq_some_iff_getElem.1 hf
   have : p.any (fun u => !okRune u) = true := List.any_eq_true.2 ⟨_, List.getElem_mem hj, h1⟩
   rw [this]
   simp [hj]
 ·rw [if_neg (by simpa using h)]
  simp [h]
theorem okRe_facts {p : List Nd} (h : okRe p = true) : 1 ≤ p.length ∧ p.length ≤ 40 ∧ (∀ u ∈ p, u.2.length ≤ 24 ∧ u.2.length % 2 = 0) ∧ ∃ K q, pileR p 0 [] [] = some (K, q) := by
 unfold okRe at h
 simp only [Bool.and_eq_true, decide_eq_true_eq] at h
 obtain ⟨⟨⟨h1, h2⟩, h3⟩, h4⟩ := h
 refine ⟨by omega, by omega, fun u hu => ?_, ?_⟩
 ·have := List.all_eq_true.1 h3 u hu
  unfold okNd at this
  simp only [Bool.and_eq_true] at this
  have := this.1.1
  unfold okSet at this
  simp only [Bool.and_eq_true, decide_eq_true_eq] at this
  exact ⟨this.2, this.1.2⟩
 ·cases hq : pileR p 0 [] [] with
  | none => rw [hq] at h4; cases h4
  | some o => exact ⟨o.1, o.2, rfl⟩
/-- What may be parsed. -/
def can (p : List Nd) (l : List Int) : Bool := okRe p && p.all okPl && (decide (l.length ≤ 40) && l.all okRune)
theorem can_facts {p : List Nd} {l : List Int} (h : can p l = true) : okRe p = true ∧ p.all okPl = true ∧ l.length ≤ 40 ∧ l.all okRune = true := by
 unfold can at h
 simp only [Bool.and_eq_true, decide_eq_true_eq] at h
 exact ⟨h.1.1, h.1.2, h.2.1, h.2.2⟩
theorem both40 (l : List Int) : ((l.all okRune && decide (l.length ≤ 1000)) && decide ((l.length : Int) ≤ 40)) = (decide (l.length ≤ 40) && l.all okRune) := by
 by_cases h : l.length ≤ 40
 ·have c1 : decide (l.length ≤ 1000) = true := by simp; omega
  have c2 : decide ((l.length : Int) ≤ 40) = true := by simp; omega
  have c3 : decide (l.length ≤ 40) = true := by simpa using h
  rw [c1, c2, c3]; simp
 ·have c2 : decide ((l.length : Int) ≤ 40) = false := by simp; omega
  have c3 : decide (l.length ≤ 40) = false := by simpa using h
  rw [c2, c3]; simp
theorem can_runes (x : List Int) (hx : x.length ≤ big) : z10.f x 40 = some (decide (x.length ≤ 40) && x.all okRune) := by
 rw [p_areRunes x 40 hx]
 congr 1
 by_cases h : x.length ≤ 40
 ·have c2 : decide ((x.length : Int) ≤ 40) = true := by simp; omega
  have c3 : decide (x.length ≤ 40) = true := by simpa using h
  rw [c2, c3]
 ·have c2 : decide ((x.length : Int) ≤ 40) = false := by simp; omega
  have c3 : decide (x.length ≤ 40) = false := by simpa using h
  rw [c2, c3]
theorem q_can (p : List Nd) (l : List Int) (hp : p.length ≤ big) (hq : ∀ u ∈ p, u.2.length ≤ big) (hl : l.length ≤ big) : z11.f p l = some (can p l) ∧ z1c.f p l = some (can p l) := by
 unfold z11.f z1c.f can
 rw [p_implRe p hp hq, p_specPlain p hp hq, p_implPlain p hp]
 simp only [Option.bind_some]
 cases h1 : okRe p with
 | false => exact ⟨rfl, rfl⟩
 | true =>
  cases h2 : p.all okPl with
  | false => exact ⟨rfl, rfl⟩
  | true =>
   simp only [if_true, Bool.and_self, Bool.true_and]
   rw [can_runes l hl, p_allRunes l hl]
   simp only [Option.bind_some]
   refine ⟨trivial, ?_⟩
   rw [← both40 l]
   cases l.all okRune && decide (l.length ≤ 1000) <;> simp
abbrev Sp := Int × Int × Int
inductive RT where
 | nil : RT
 | set : List Int → RT
 | cat : RT → RT → RT
 | or : RT → RT → RT
 | and : RT → RT → RT
 | star : RT → RT
 | not : RT → RT
def inS : List Int → Int → Bool
 | lo :: hi :: r, x => (decide (lo ≤ x) && decide (x ≤ hi)) || inS r x
 | _, _ => false
def starF (f : List Int → Bool) : Nat → List Int → Bool
 | 0, w => w.isEmpty
 | n + 1, w => w.isEmpty || (List.range w.length).any fun i => f (w.take (i + 1)) && starF f n (w.drop (i + 1))
/-- What a pattern matches. -/
def acc : RT → List Int → Bool
 | .nil, w => w.isEmpty
 | .set s, w => match w with
  | [x] => inS s x
  | _ => false
 | .cat a b, w => (List.range (w.length + 1)).any fun i => acc a (w.take i) && acc b (w.drop i)
 | .or a b, w => acc a w || acc b w
 | .and a b, w => acc a w && acc b w
 | .star a, w => starF (acc a) w.length w
 | .not a, w => !acc a w
theorem starF_more (f : List Int → Bool) : ∀ (n m : Nat) (w : List Int), w.length ≤ n → w.length ≤ m → starF f n w = starF f m w
 | 0, 0, w, _, _ => rfl
 | 0, m + 1, w, h, _ => by
  obtain rfl : w = [] := List.eq_nil_of_length_eq_zero (by omega)
  rfl
 | n + 1, 0, w, _, h => by
  obtain rfl : w = [] := List.eq_nil_of_length_eq_zero (by omega)
  rfl
 | n + 1, m + 1, w, h1, h2 => by
  unfold starF
  congr 1
  rw [Bool.eq_iff_iff, List.any_eq_true, List.any_eq_true]
  constructor
  ·rintro ⟨i, hi, h⟩
   rw [List.mem_range] at hi
   refine ⟨i, List.mem_range.2 hi, ?_⟩
   rw [← starF_more f n m _ (by simp; omega) (by simp; omega)]
   exact h
  ·rintro ⟨i, hi, h⟩
   rw [List.mem_range] at hi
   refine ⟨i, List.mem_range.2 hi, ?_⟩
   rw [starF_more f n m _ (by simp; omega) (by simp; omega)]
   exact h
theorem acc_star (a : RT) (w : List Int) : acc (.star a) w = (w.isEmpty || (List.range w.length).any fun i => acc a (w.take (i + 1)) && acc (.star a) (w.drop (i + 1))) := by
 show starF (acc a) w.length w = _
 cases w with
 | nil => rfl
 | cons x w =>
  rw [List.length_cons]
  conv => lhs; unfold starF
  congr 1
  rw [Bool.eq_iff_iff, List.any_eq_true, List.any_eq_true]
  have key : ∀ i, i < (x :: w).length → starF (acc a) w.length ((x :: w).drop (i + 1)) = acc (.star a) ((x :: w).drop (i + 1)) := fun i hi => by
   show _ = starF (acc a) _ _
   exact starF_more _ _ _ _ (by simp) (Nat.le_refl _)
  constructor
  ·rintro ⟨i, hi, h⟩
   rw [key i (List.mem_range.1 hi)] at h
   exact ⟨i, hi, h⟩
  ·rintro ⟨i, hi, h⟩
   refine ⟨i, hi, ?_⟩
   rw [key i (List.mem_range.1 hi)]
   exact h
/-- A part of a list. -/
def seg (l : List Int) (f t : Nat) : List Int := (l.take t).drop f
theorem seg_len (l : List Int) (f t : Nat) (ht : t ≤ l.length) : (seg l f t).length = t - f := by simp [seg]; omega
theorem seg_take (l : List Int) (f t i : Nat) (h : f + i ≤ t) : (seg l f t).take i = seg l f (f + i) := by
 unfold seg
 rw [List.take_drop, List.take_take, Nat.min_eq_left (by omega)]
theorem seg_drop (l : List Int) (f t i : Nat) : (seg l f t).drop i = seg l (f + i) t := by
 unfold seg
 rw [List.drop_drop]
theorem seg_empty (l : List Int) (f t : Nat) (hf : f ≤ t) (ht : t ≤ l.length) : (seg l f t).isEmpty = decide (f = t) := by
 rw [Bool.eq_iff_iff, List.isEmpty_iff_length_eq_zero, seg_len l f t ht, decide_eq_true_eq]
 omega
theorem seg_one (l : List Int) (f : Nat) (h : f < l.length) : seg l f (f + 1) = [l[f]] := by
 unfold seg
 rw [List.take_succ_eq_append_getElem h, List.drop_append_of_le_length (by simp; omega), List.drop_of_length_le (by simp; omega)]
 rfl
theorem acc_nil_seg (l : List Int) (f t : Nat) (hf : f ≤ t) (ht : t ≤ l.length) : acc .nil (seg l f t) = decide (f = t) := seg_empty l f t hf ht
theorem acc_set_seg (s : List Int) (l : List Int) (f t : Nat) (hf : f ≤ t) (ht : t ≤ l.length) : acc (.set s) (seg l f t) = if h : t = f + 1 then inS s (l[f]'(by omega)) else false := by
 by_cases h : t = f + 1
 ·subst h
  rw [seg_one l f (by omega)]
  simp [acc]
 ·rw [dif_neg h]
  have hl := seg_len l f t ht
  unfold acc
  split
  ·rename_i x hx
   rw [hx] at hl
   simp at hl
   omega
  ·rfl
/-- Over the places between. -/
theorem acc_cat_seg (a b : RT) (l : List Int) (f t : Nat) (hf : f ≤ t) (ht : t ≤ l.length) : acc (.cat a b) (seg l f t) = (List.range (t - f + 1)).any fun i => acc a (seg l f (f + i)) && acc b (seg l (f + i) t) := by
 show (List.range ((seg l f t).length + 1)).any _ = _
 rw [seg_len l f t ht, Bool.eq_iff_iff, List.any_eq_true, List.any_eq_true]
 constructor
 ·rintro ⟨i, hi, h⟩
  have := List.mem_range.1 hi
  rw [seg_take l f t i (by omega), seg_drop] at h
  exact ⟨i, hi, h⟩
 ·rintro ⟨i, hi, h⟩
  have := List.mem_range.1 hi
  refine ⟨i, hi, ?_⟩
  rw [seg_take l f t i (by omega), seg_drop]
  exact h
theorem acc_star_seg (a : RT) (l : List Int) (f t : Nat) (hf : f ≤ t) (ht : t ≤ l.length) : acc (.star a) (seg l f t) = (decide (f = t) || (List.range (t - f)).any fun i => acc a (seg l f (f + 1 + i)) && acc (.star a) (seg l (f + 1 + i) t)) := by
 rw [acc_star, seg_empty l f t hf ht, seg_len l f t ht]
 congr 1
 rw [Bool.eq_iff_iff, List.any_eq_true, List.any_eq_true]
 constructor
 ·rintro ⟨i, hi, h⟩
  have := List.mem_range.1 hi
  rw [seg_take l f t (i + 1) (by omega), seg_drop, show f + (i + 1) = f + 1 + i by omega] at h
  exact ⟨i, hi, h⟩
 ·rintro ⟨i, hi, h⟩
  have := List.mem_range.1 hi
  refine ⟨i, hi, ?_⟩
  rw [seg_take l f t (i + 1) (by omega), seg_drop, show f + (i + 1) = f + 1 + i by omega]
  exact h
/-- The tree of a node, of its parts' trees. -/
def mkT (u : Nd) (ks : List RT) : RT :=
 if u.1 = 1 then .nil else if u.1 = 2 then .set u.2 else
 match ks with
 | [a] => if u.1 = 6 then .star a else .not a
 | [a, b] => if u.1 = 3 then .cat a b else if u.1 = 4 then .or a b else .and a b
 | _ => .nil
/-- All trees, in their nodes' order. -/
def getT (ts : List RT) (i : Int) : RT := (ts[i.toNat]?).getD .nil
def bld : List (List Int × Nd) → List RT → List RT
 | [], ts => ts
 | (ks, u) :: r, ts => bld r (ts ++ [mkT u (ks.map (getT ts))])
theorem bld_len : ∀ (r : List (List Int × Nd)) (ts : List RT), (bld r ts).length = ts.length + r.length
 | [], ts => by simp [bld]
 | (ks, u) :: r, ts => by rw [bld, bld_len r]; simp; omega
theorem bld_pre : ∀ (r : List (List Int × Nd)) (ts : List RT) (i : Nat), i < ts.length → (bld r ts)[i]? = ts[i]?
 | [], ts, i, h => rfl
 | (ks, u) :: r, ts, i, h => by
  rw [bld, bld_pre r _ i (by simp; omega), List.getElem?_append_left h]
theorem bld_at : ∀ (r : List (List Int × Nd)) (ts : List RT) (i : Nat) (ks : List Int) (u : Nd), r[i]? = some (ks, u) → (∀ k ∈ ks, 0 ≤ k ∧ k < ts.length + i) → (bld r ts)[ts.length + i]? = some (mkT u (ks.map (getT (bld r ts))))
 | [], ts, i, ks, u, h, _ => by simp at h
 | (ks', u') :: r, ts, 0, ks, u, h, hk => by
  obtain ⟨rfl, rfl⟩ : ks' = ks ∧ u' = u := by simpa using h
  rw [bld, bld_pre r _ _ (by simp)]
  rw [List.getElem?_append_right (by omega)]
  simp only [Nat.add_zero, Nat.sub_self, List.getElem?_cons_zero, Option.some.injEq]
  congr 1
  refine List.map_congr_left fun k hk' => ?_
  have := hk k hk'
  unfold getT
  rw [bld_pre r _ _ (by simp; omega), List.getElem?_append_left (by omega)]
 | (ks', u') :: r, ts, i + 1, ks, u, h, hk => by
  have := bld_at r (ts ++ [mkT u' (ks'.map (getT ts))]) i ks u (by simpa using h) (fun k hk' => by have := hk k hk'; simp; omega)
  rw [bld]
  rw [List.length_append, List.length_singleton, show ts.length + 1 + i = ts.length + (i + 1) by omega] at this
  exact this
def pairs : List Int → List (Int × Int)
 | lo :: hi :: r => (lo, hi) :: pairs r
 | _ => []
theorem pairs_len : ∀ s : List Int, (pairs s).length ≤ s.length
 | [] => by simp [pairs]
 | [x] => by simp [pairs]
 | x :: y :: r => by have := pairs_len r; simp [pairs]; omega
theorem inS_any : ∀ (s : List Int) (x : Int), (pairs s).any (fun u => decide (u.1 ≤ x) && decide (x ≤ u.2)) = inS s x
 | [], x => rfl
 | [_], x => rfl
 | lo :: hi :: r, x => by
  unfold pairs inS
  rw [List.any_cons, inS_any r x]
theorem p_spans_l : ∀ (n : Nat) (rest pre : List Int) (out : List (Int × Int)), rest.length ≤ n → pre.length + rest.length ≤ 1000000 → out.length ≤ pre.length → ∀ k, rest.length < k → z12.l1 (pre ++ rest) k out pre.length = some (out ++ pairs rest) := by
 intro n
 induction n with
 | zero =>
  intro rest pre out hn hb ho k hk
  obtain rfl : rest = [] := List.eq_nil_of_length_eq_zero (by omega)
  obtain ⟨k, rfl⟩ := Nat.exists_eq_succ_of_ne_zero (show k ≠ 0 by omega)
  rw [z12.l1, y03 pre.length (by simp at hb; omega), if_neg (by simp; omega)]
  simp [pairs]
 | succ n ih =>
  intro rest pre out hn hb ho k hk
  obtain ⟨k, rfl⟩ := Nat.exists_eq_succ_of_ne_zero (show k ≠ 0 by omega)
  match rest, hn, hb, hk with
  | [], _, hb, _ =>
   rw [z12.l1, y03 pre.length (by simp at hb; omega), if_neg (by simp; omega)]
   simp [pairs]
  | [x], _, hb, _ =>
   rw [z12.l1, y03 pre.length (by simp at hb; omega), if_neg (by simp)]
   simp [pairs]
  | x :: y :: r, hn, hb, hk =>
   simp only [List.length_cons] at hn hb hk
   have ha : pre ++ x :: y :: r = (pre ++ [x]) ++ y :: r := by simp
   have hl1 : ((pre.length + 1 : Nat) : Int) = ((pre ++ [x]).length : Int) := by simp
   have ry : rd? (pre ++ x :: y :: r) ((pre.length + 1 : Nat) : Int) = some y := by rw [hl1, ha, rd_mid]
   rw [z12.l1, y03 pre.length (by omega), if_pos (by rw [decide_eq_true_eq]; simp only [List.length_append, List.length_cons]; omega), rd_mid, ry]
   simp only [Option.bind_some]
   rw [app?_at (by simp; omega)]
   simp only [Option.bind_some]
   have hl2 : IntKind.i64.wrap ((pre.length : Int) + 2) = ((pre ++ [x] ++ [y]).length : Int) := by rw [yv (by omega) (by omega)]; simp only [List.length_append, List.length_singleton]; omega
   have ha2 : pre ++ x :: y :: r = (pre ++ [x] ++ [y]) ++ r := by simp
   rw [hl2, ha2, ih r (pre ++ [x] ++ [y]) (out ++ [(x, y)]) (by omega) (by simp; omega) (by simp; omega) k (by omega)]
   simp [pairs]
theorem p_spansOf (s : List Int) (hs : s.length ≤ 1000000) : z12.f s = some (pairs s) := by
 unfold z12.f
 have := p_spans_l s.length s [] [] (Nat.le_refl _) (by simpa using hs) (Nat.le_refl _) (((s.length : Int) - IntKind.i64.wrap (0 + 1)).toNat + 2) (by rw [yv (by omega) (by omega)]; omega)
 rw [List.nil_append, show ((([] : List Int).length : Nat) : Int) = 0 from rfl] at this
 rw [this]
 rfl
theorem p_implIn (s : List Int) (x : Int) (hs : s.length ≤ 1000000) : z16.f s x = some (inS s x) := by
 unfold z16.f
 rw [p_spansOf s hs]
 simp only [Option.bind_some]
 unfold z15.f z14.f
 have hp : (pairs s).length ≤ big := by have := pairs_len s; unfold big; omega
 generalize hq : pairs s = p at *
 have e1 : ∀ u : Int × Int, z13.f u.1 u.2 x = some (decide (u.1 ≤ x) && decide (x ≤ u.2)) := fun u => by
  unfold z13.f
  simp only [p_inRange, Option.bind_some]
 have := scan_loop p hp (fun u => decide (u.1 ≤ x) && decide (x ≤ u.2)) (fun i _ => i) (z14.l1 p x) (fun k i => by rw [z14.l1]; simp only [e1, Option.bind_some]) (((p.length : Int) - 0).toNat + 2) 0 (by omega) (by omega)
 rw [show ((0 : Nat) : Int) = 0 from rfl] at this
 rw [this, List.drop_zero]
 have e := inS_any s x
 rw [hq] at e
 rw [← e]
 cases hf : p.findIdx? (fun u => decide (u.1 ≤ x) && decide (x ≤ u.2)) with
 | none =>
  have : p.any (fun u => decide (u.1 ≤ x) && decide (x ≤ u.2)) = false := by
   rw [List.findIdx?_eq_none_iff] at hf
   rw [List.any_eq_false]
   intro u hu
   rw [hf u hu]
   simp
  rw [this]; simp
 | some j =>
  obtain ⟨hj, h1, h2⟩ := List.findIdx?_eq_some_iff_getElem.1 hf
  have : p.any (fun u => decide (u.1 ≤ x) && decide (x ≤ u.2)) = true := List.any_eq_true.2 ⟨_, List.getElem_mem hj, h1⟩
  rw [this]
  simp [hj]
theorem p_specIn_l (x : Int) : ∀ (n : Nat) (rest pre : List Int), rest.length ≤ n → pre.length + rest.length ≤ 1000000 → rest.length % 2 = 0 → ∀ k, rest.length < k → z05.l1 (pre ++ rest) x k pre.length = some (if inS rest x then .ret true else .go ()) := by
 intro n
 induction n with
 | zero =>
  intro rest pre hn hb he k hk
  obtain rfl : rest = [] := List.eq_nil_of_length_eq_zero (by omega)
  obtain ⟨k, rfl⟩ := Nat.exists_eq_succ_of_ne_zero (show k ≠ 0 by omega)
  rw [z05.l1, if_neg (by simp)]
  rfl
 | succ n ih =>
  intro rest pre hn hb he k hk
  obtain ⟨k, rfl⟩ := Nat.exists_eq_succ_of_ne_zero (show k ≠ 0 by omega)
  match rest, hn, hb, he, hk with
  | [], _, _, _, _ =>
   rw [z05.l1, if_neg (by simp)]
   rfl
  | [x], _, _, he, _ => simp at he
  | y :: z :: r, hn, hb, he, hk =>
   simp only [List.length_cons] at hn hb hk he
   have ha : pre ++ y :: z :: r = (pre ++ [y]) ++ z :: r := by simp
   have hl1 : IntKind.i64.wrap ((pre.length : Int) + 1) = ((pre ++ [y]).length : Int) := by rw [yv (by omega) (by omega)]; simp
   have ry : rd? (pre ++ y :: z :: r) (IntKind.i64.wrap ((pre.length : Int) + 1)) = some z := by rw [hl1, ha, rd_mid]
   rw [z05.l1, if_pos (by rw [decide_eq_true_eq]; simp only [List.length_append, List.length_cons]; omega), rd_mid, ry]
   simp only [Option.bind_some, p_l1In]
   unfold inS
   cases hd : (decide (y ≤ x) && decide (x ≤ z)) with
   | true => rfl
   | false =>
    have hl2 : IntKind.i64.wrap ((pre.length : Int) + 2) = ((pre ++ [y] ++ [z]).length : Int) := by rw [yv (by omega) (by omega)]; simp only [List.length_append, List.length_singleton]; omega
    have ha2 : pre ++ y :: z :: r = (pre ++ [y] ++ [z]) ++ r := by simp
    rw [hl2, ha2, ih r (pre ++ [y] ++ [z]) (by omega) (by simp; omega) (by omega) k (by omega)]
    simp
theorem p_specIn (s : List Int) (x : Int) (hs : s.length ≤ 1000000) (he : s.length % 2 = 0) : z05.f s x = some (inS s x) := by
 unfold z05.f
 have := p_specIn_l x s.length s [] (Nat.le_refl _) (by simpa using hs) he (((s.length : Int) - 0).toNat + 2) (by omega)
 rw [List.nil_append, show ((([] : List Int).length : Nat) : Int) = 0 from rfl] at this
 rw [this]
 cases inS s x <;> rfl
/-- Going back over the part that ends at a place. -/
def Scan (p : List Nd) (r s : Int) : Prop := 0 ≤ s ∧ s ≤ r ∧ r < p.length ∧ ∀ (n : Int) (f : Nat), 0 ≤ n → n + (r - s) ≤ 1000000 → z1d.l1 p (f + (r - s + 1).toNat) (n + 1) r = z1d.l1 p f n (s - 1)
/-- A pile, the last part first: each part's last node, and where the part begins. -/
def Pile (p : List Nd) : Int → List Int → Prop
 | e, [] => e = -1
 | e, r :: rs => r = e ∧ ∃ s, Scan p r s ∧ Pile p (s - 1) rs
theorem Scan.leaf {p : List Nd} (hp : p.length ≤ 1000) (i : Nat) (hi : i < p.length) (h : ar p[i].1 = 0) : Scan p i i := by
 refine ⟨by omega, Int.le_refl _, by omega, fun n f h0 h1 => ?_⟩
 rw [show ((i : Int) - i + 1).toNat = 1 by omega, z1d.l1, if_pos (by simp; omega), rd?_at hi]
 simp only [Option.bind_some, p_arity, h]
 rw [yv (n := 0 - 1) (by omega) (by omega), yv (by omega) (by omega), yv (by omega) (by omega)]
 rw [show n + 1 + (0 - 1) = n by omega]
theorem Scan.one {p : List Nd} (hp : p.length ≤ 1000) (i : Nat) (hi : i < p.length) (h : ar p[i].1 = 1) {s : Int} (hs : Scan p ((i : Int) - 1) s) : Scan p i s := by
 obtain ⟨h1, h2, h3, h4⟩ := hs
 refine ⟨h1, by omega, by omega, fun n f h0 h5 => ?_⟩
 rw [show f + ((i : Int) - s + 1).toNat = (f + ((i : Int) - 1 - s + 1).toNat) + 1 by omega, z1d.l1, if_pos (by simp; omega), rd?_at hi]
 simp only [Option.bind_some, p_arity, h]
 rw [yv (n := 1 - 1) (by omega) (by omega), yv (by omega) (by omega), yv (by omega) (by omega)]
 rw [show n + 1 + (1 - 1) = n + 1 by omega]
 exact h4 n f h0 (by omega)
theorem Scan.two {p : List Nd} (hp : p.length ≤ 1000) (i : Nat) (hi : i < p.length) (h : ar p[i].1 = 2) {s s' : Int} (hs : Scan p ((i : Int) - 1) s) (hs' : Scan p (s - 1) s') : Scan p i s' := by
 obtain ⟨h1, h2, h3, h4⟩ := hs
 obtain ⟨g1, g2, g3, g4⟩ := hs'
 refine ⟨g1, by omega, by omega, fun n f h0 h5 => ?_⟩
 rw [show f + ((i : Int) - s' + 1).toNat = ((f + (s - 1 - s' + 1).toNat) + ((i : Int) - 1 - s + 1).toNat) + 1 by omega, z1d.l1, if_pos (by simp; omega), rd?_at hi]
 simp only [Option.bind_some, p_arity, h]
 rw [yv (n := 2 - 1) (by omega) (by omega), yv (by omega) (by omega), yv (by omega) (by omega)]
 rw [show n + 1 + (2 - 1) = (n + 1) + 1 by omega, h4 (n + 1) _ (by omega) (by omega)]
 exact g4 n f h0 (by omega)
theorem first_of {p : List Nd} (hp : p.length ≤ 1000) (i : Nat) (hi : i < p.length) {s : Int} (hs : Scan p ((i : Int) - 1) s) : z1d.f p i = some (s - 1) := by
 obtain ⟨h1, h2, h3, h4⟩ := hs
 unfold z1d.f
 rw [yv (by omega) (by omega)]
 have := h4 0 (p.length + 2 - ((i : Int) - 1 - s + 1).toNat) (by omega) (by omega)
 rw [show p.length + 2 - ((i : Int) - 1 - s + 1).toNat + ((i : Int) - 1 - s + 1).toNat = p.length + 2 by omega, show (0 : Int) + 1 = 1 from rfl] at this
 rw [this]
 obtain ⟨f, hf⟩ := Nat.exists_eq_succ_of_ne_zero (show p.length + 2 - ((i : Int) - 1 - s + 1).toNat ≠ 0 by omega)
 rw [hf, z1d.l1, if_neg (by decide)]
 rfl
def KidOk (p : List Nd) (ks : List Int) (k : Nat) (u : Nd) : Prop := (ar u.1 = 0 → ks = []) ∧ (ar u.1 = 1 → ks = [(k : Int) - 1] ∧ 1 ≤ k) ∧ (ar u.1 = 2 → ∃ f : Int, ks = [f, (k : Int) - 1] ∧ 0 ≤ f ∧ f + 1 < k ∧ z1d.f p k = some f) ∧ 0 ≤ ar u.1
def Kids (p : List Nd) (K : List (List Int)) (n : Nat) : Prop := K.length = n ∧ ∀ (k : Nat) (hk : k < n) (hp : k < p.length), ∃ ks, K[k]? = some ks ∧ KidOk p ks k p[k]
theorem drop_last {α : Type} (l : List α) (a : α) : (l ++ [a]).drop ((l ++ [a]).length - 1) = [a] := by
 rw [List.length_append, List.length_singleton, Nat.add_sub_cancel, List.drop_left]
theorem kids_of (p : List Nd) (hp : p.length ≤ 1000) : ∀ (rest pre : List Nd) (pile : List Int) (out K : List (List Int)) (q : List Int), p = pre ++ rest → Pile p ((pre.length : Int) - 1) pile.reverse → Kids p out pre.length → pileR rest pre.length pile out = some (K, q) → Kids p K p.length ∧ Pile p ((p.length : Int) - 1) q.reverse := by
 intro rest
 induction rest with
 | nil =>
  intro pre pile out K q hpe hP hK h
  rw [List.append_nil] at hpe
  subst hpe
  unfold pileR at h
  injection h with h
  injection h with h1 h2
  subst h1 h2
  exact ⟨hK, hP⟩
 | cons u us ih =>
  intro pre pile out K q hpe hP hK h
  unfold pileR at h
  split at h
  ·cases h
  rename_i hn
  have hi : pre.length < p.length := by rw [hpe]; simp
  have hu : p[pre.length] = u := by subst hpe; simp
  have hbd := ar_bd u.1
  have hl : pre.length = out.length := hK.1.symm
  -- the step, told for what is taken off
  have step : ∀ (pile' ks : List Int), pile.take (pile.length - (ar u.1).toNat) = pile' → pile.drop (pile.length - (ar u.1).toNat) = ks → KidOk p ks pre.length u → (∃ s, Scan p pre.length s ∧ Pile p (s - 1) pile'.reverse) → Kids p K p.length ∧ Pile p ((p.length : Int) - 1) q.reverse := by
   intro pile' ks e1 e2 hk ⟨s, hs, hP'⟩
   rw [e1, e2] at h
   refine ih (pre ++ [u]) (pile' ++ [(pre.length : Int)]) (out ++ [ks]) K q (by rw [hpe]; simp) ?_ ⟨by simp [hK.1], fun k hk1 hk2 => ?_⟩ ?_
   ·rw [List.reverse_append]
    exact ⟨by simp, s, hs, hP'⟩
   ·simp only [List.length_append, List.length_singleton] at hk1
    by_cases hkp : k < pre.length
    ·obtain ⟨ks', g1, g2⟩ := hK.2 k hkp hk2
     exact ⟨ks', by rw [List.getElem?_append_left (by omega)]; exact g1, g2⟩
    ·obtain rfl : k = pre.length := by omega
     refine ⟨ks, by rw [hl, List.getElem?_append_right (Nat.le_refl _)]; simp, ?_⟩
     rw [hu]; exact hk
   ·rw [List.length_append, List.length_singleton]
    exact h
  have hcase : ar u.1 = 0 ∨ ar u.1 = 1 ∨ ar u.1 = 2 := by omega
  rcases hcase with ha | ha | ha
  ·refine step pile [] (by rw [ha]; simp) (by rw [ha]; simp) ⟨fun _ => rfl, fun h => by omega, fun h => by omega, by omega⟩ ⟨pre.length, Scan.leaf hp _ hi (by rw [hu]; exact ha), hP⟩
  ·rcases List.eq_nil_or_concat pile with rfl | ⟨pl, r, rfl⟩
   ·simp at hn; omega
   rw [List.concat_eq_append] at *
   rw [List.reverse_append] at hP
   obtain ⟨hr, s, hs, hP'⟩ := hP
   have hr : r = (pre.length : Int) - 1 := hr
   subst hr
   have h1 : 1 ≤ pre.length := by have := hs.1; have := hs.2.1; omega
   refine step pl [(pre.length : Int) - 1] (by rw [ha]; simp) (by rw [ha]; exact drop_last pl _) ⟨fun h => by omega, fun _ => ⟨rfl, h1⟩, fun h => by omega, by omega⟩ ⟨s, Scan.one hp _ hi (by rw [hu]; exact ha) hs, hP'⟩
  ·rcases List.eq_nil_or_concat pile with rfl | ⟨pl, r, rfl⟩
   ·simp at hn; omega
   rw [List.concat_eq_append] at *
   rcases List.eq_nil_or_concat pl with rfl | ⟨pl, r2, rfl⟩
   ·simp at hn; omega
   rw [List.concat_eq_append] at *
   rw [List.reverse_append, List.reverse_append] at hP
   obtain ⟨hr, s, hs, hr2, s2, hs2, hP'⟩ := hP
   have hr : r = (pre.length : Int) - 1 := hr
   have hr2 : r2 = s - 1 := hr2
   subst hr hr2
   have b1 := hs.1
   have b2 := hs.2.1
   have b3 := hs2.1
   have b4 := hs2.2.1
   refine step pl [s - 1, (pre.length : Int) - 1] (by rw [ha]; simp) (by rw [ha]; simp) ⟨fun h => by omega, fun h => by omega, fun _ => ⟨s - 1, rfl, by omega, by omega, first_of hp _ hi hs⟩, by omega⟩ ⟨s2, Scan.two hp _ hi (by rw [hu]; exact ha) hs hs2, hP'⟩
theorem rd?_get' {α : Type} {xs : List α} {i : Nat} {x : α} (h : xs[i]? = some x) : rd? xs (i : Int) = some x := by
 obtain ⟨h1, h2⟩ := List.getElem?_eq_some_iff.1 h
 rw [rd?_at h1, h2]
/-- The trees of a pattern. -/
def trs (p : List Nd) (K : List (List Int)) : List RT := bld (K.zip p) []
theorem trs_at {p : List Nd} {K : List (List Int)} (hK : Kids p K p.length) {k : Nat} (hk : k < p.length) {ks : List Int} (h : K[k]? = some ks) (hks : ∀ c ∈ ks, 0 ≤ c ∧ c < k) : getT (trs p K) (k : Int) = mkT p[k] (ks.map (getT (trs p K))) := by
 have hz : (K.zip p)[k]? = some (ks, p[k]) := by
  rw [List.getElem?_zip_eq_some]
  exact ⟨h, List.getElem?_eq_getElem hk⟩
 have := bld_at (K.zip p) [] k ks p[k] hz (fun c hc => by have := hks c hc; simp; omega)
 simp only [List.length_nil, Nat.zero_add] at this
 unfold getT
 rw [Int.toNat_natCast]
 show ((bld (K.zip p) [])[k]?).getD .nil = _
 rw [this]
 rfl
theorem ar_cases {k : Int} (h : 0 ≤ ar k) : k = 1 ∨ k = 2 ∨ k = 3 ∨ k = 4 ∨ k = 5 ∨ k = 6 ∨ k = 7 := by
 unfold ar at h
 split at h
 ·omega
 ·split at h
  ·omega
  ·split at h
   ·omega
   ·omega
/-- The greatest place of a stretch that does it. -/
def topF (g : Nat → Bool) (f : Nat) : Nat → Nat
 | 0 => f
 | n + 1 => if g (f + (n + 1)) = true then f + (n + 1) else topF g f n
theorem topF_bd (g : Nat → Bool) (f : Nat) : ∀ n, f ≤ topF g f n ∧ topF g f n ≤ f + n
 | 0 => ⟨Nat.le_refl _, Nat.le_refl _⟩
 | n + 1 => by
  unfold topF
  split
  ·omega
  ·have := topF_bd g f n
   omega
theorem topF_ok {g : Nat → Bool} {f : Nat} : ∀ {n : Nat}, (∃ i, i ≤ n ∧ g (f + i) = true) → g (topF g f n) = true
 | 0, ⟨i, h1, h2⟩ => by
  obtain rfl : i = 0 := by omega
  exact h2
 | n + 1, ⟨i, h1, h2⟩ => by
  unfold topF
  split
  ·assumption
  ·rename_i hn
   exact topF_ok ⟨i, by
    rcases Nat.lt_or_ge i (n + 1) with h | h
    ·omega
    ·obtain rfl : i = n + 1 := by omega
     exact absurd h2 hn, h2⟩
theorem topF_ge {g : Nat → Bool} {f : Nat} : ∀ {n i : Nat}, i ≤ n → g (f + i) = true → f + i ≤ topF g f n
 | 0, i, h1, _ => by
  obtain rfl : i = 0 := by omega
  exact Nat.le_refl _
 | n + 1, i, h1, h2 => by
  unfold topF
  split
  ·omega
  ·rename_i hn
   refine topF_ge ?_ h2
   rcases Nat.lt_or_ge i (n + 1) with h | h
   ·omega
   ·obtain rfl : i = n + 1 := by omega
    exact absurd h2 hn
def tA (p : List Nd) (K : List (List Int)) (l : List Int) (c : Int) (i j : Nat) : Bool := acc (getT (trs p K) c) (seg l i j)
def kid (K : List (List Int)) (k i : Nat) : Nat := ((((K[k]?).getD [])[i]?).getD 0).toNat
/-- A repetition's parts, one behind the other. -/
def starL (P : Nat → Nat → List Sp) (q : Nat → Nat → Bool) : Nat → Nat → Nat → List Sp
 | 0, _, _ => []
 | n + 1, f, t => if f < t then P f (topF (q f) f (t - f)) ++ starL P q n (topF (q f) f (t - f)) t else []
/-- The parse that is chosen. -/
def prs (p : List Nd) (K : List (List Int)) (l : List Int) : Nat → Nat → Nat → Nat → List Sp
 | 0, _, _, _ => []
 | n + 1, k, f, t => ((k : Int), (f : Int), (t : Int)) ::
  (if ((p[k]?).map (·.1)).getD 0 = 4 then (if tA p K l (kid K k 0) f t = true then prs p K l n (kid K k 0) f t else prs p K l n (kid K k 1) f t)
  else if ((p[k]?).map (·.1)).getD 0 = 3 then
   prs p K l n (kid K k 0) f (topF (fun m => tA p K l (kid K k 0) f m && tA p K l (kid K k 1) m t) f (t - f)) ++ prs p K l n (kid K k 1) (topF (fun m => tA p K l (kid K k 0) f m && tA p K l (kid K k 1) m t) f (t - f)) t
  else if ((p[k]?).map (·.1)).getD 0 = 6 then starL (prs p K l n (kid K k 0)) (fun f m => tA p K l (kid K k 0) f m && tA p K l k m t) (t - f) f t
  else [])
/-- A repetition goes on. -/
theorem star_on {p : List Nd} {K : List (List Int)} {l : List Int} {k a f t : Nat} (hT : getT (trs p K) (k : Int) = .star (getT (trs p K) (a : Int))) (hft : f < t) (ht : t ≤ l.length) (h : tA p K l k f t = true) :
  ∃ i, i ≤ t - f ∧ 0 < i ∧ (tA p K l a f (f + i) && tA p K l k (f + i) t) = true := by
 unfold tA at h ⊢
 rw [hT] at h ⊢
 rw [acc_star_seg _ l f t (by omega) ht, Bool.or_eq_true, List.any_eq_true] at h
 rcases h with h | ⟨i, hi, h⟩
 ·simp at h; omega
 ·have := List.mem_range.1 hi
  exact ⟨i + 1, by omega, by omega, by rw [show f + (i + 1) = f + 1 + i by omega]; exact h⟩
theorem star_nil {p : List Nd} {K : List (List Int)} {l : List Int} {k a t : Nat} (hT : getT (trs p K) (k : Int) = .star (getT (trs p K) (a : Int))) (ht : t ≤ l.length) : tA p K l k t t = true := by
 unfold tA
 rw [hT, acc_star_seg _ l t t (Nat.le_refl _) ht]
 simp
theorem cat_on {p : List Nd} {K : List (List Int)} {l : List Int} {k a b f t : Nat} (hT : getT (trs p K) (k : Int) = .cat (getT (trs p K) (a : Int)) (getT (trs p K) (b : Int))) (hft : f ≤ t) (ht : t ≤ l.length) (h : tA p K l k f t = true) :
  ∃ i, i ≤ t - f ∧ (tA p K l a f (f + i) && tA p K l b (f + i) t) = true := by
 unfold tA at h ⊢
 rw [hT, acc_cat_seg _ _ l f t hft ht, List.any_eq_true] at h
 obtain ⟨i, hi, h⟩ := h
 have := List.mem_range.1 hi
 exact ⟨i, by omega, h⟩
/-- What a node's parse is: how long at most, what the code finds. -/
structure PrsOk (p : List Nd) (K : List (List Int)) (l : List Int) (I : Nat → List Sp → Nat → Nat → Nat → Option (List Sp)) (S : Nat → Nat → Nat → Nat → Option (List Sp)) (k kr : Nat) (sz : Nat) : Prop where
 len : ∀ f t, f ≤ t → t ≤ l.length → tA p K l k f t = true → (prs p K l kr k f t).length ≤ sz * max 1 (t - f)
 impl : ∀ f t out, f ≤ t → t ≤ l.length → tA p K l k f t = true → out.length + sz * max 1 (t - f) ≤ 1000000 → I kr out k f t = some (out ++ prs p K l kr k f t)
 spec : ∀ f t, f ≤ t → t ≤ l.length → tA p K l k f t = true → S kr k f t = some (prs p K l kr k f t)
/-- A node's rows: for the places behind (i, j) they hold what they should. -/
def RowsV (l : List Int) (T : RT) (i j : Nat) (rows : List (List Bool)) : Prop := rows.length = l.length + 1 ∧ ∀ f, f ≤ l.length → ∃ row, rows[f]? = some row ∧ row.length = l.length + 1 ∧ ∀ t, f ≤ t → t ≤ l.length → (i < f ∨ f = i ∧ t < j) → row[t]? = some (acc T (seg l f t))
def RowsA (l : List Int) (T : RT) (rows : List (List Bool)) : Prop := rows.length = l.length + 1 ∧ ∀ f, f ≤ l.length → ∃ row, rows[f]? = some row ∧ row.length = l.length + 1 ∧ ∀ t, f ≤ t → t ≤ l.length → row[t]? = some (acc T (seg l f t))
theorem p_has {p : List Nd} {K : List (List Int)} {l : List Int} {tb : List (List (List Bool))} {T : RT} {c : Nat} {rows : List (List Bool)} (h : tb[c]? = some rows) {f t : Nat} {row : List Bool} {b : Bool} (h2 : rows[f]? = some row) (h3 : row[t]? = some b) : z17.f p K l tb (c : Int) (f : Int) (t : Int) = some b := by
 unfold z17.f
 rw [rd?_get' h]
 simp only [Option.bind_some]
 rw [rd?_get' h2]
 simp only [Option.bind_some]
 rw [rd?_get' h3]
 rfl
theorem RowsA.has {p : List Nd} {K : List (List Int)} {l : List Int} {tb : List (List (List Bool))} {T : RT} {c : Nat} {rows : List (List Bool)} (h : tb[c]? = some rows) (hr : RowsA l T rows) {f t : Nat} (hf : f ≤ t) (ht : t ≤ l.length) : z17.f p K l tb (c : Int) (f : Int) (t : Int) = some (acc T (seg l f t)) := by
 obtain ⟨row, h2, _, h3⟩ := hr.2 f (by omega)
 exact p_has (T := T) h h2 (h3 t hf ht)
theorem RowsV.has {p : List Nd} {K : List (List Int)} {l : List Int} {tb : List (List (List Bool))} {T : RT} {c : Nat} {rows : List (List Bool)} {i j : Nat} (h : tb[c]? = some rows) (hr : RowsV l T i j rows) {f t : Nat} (hf : f ≤ t) (ht : t ≤ l.length) (hij : i < f ∨ f = i ∧ t < j) : z17.f p K l tb (c : Int) (f : Int) (t : Int) = some (acc T (seg l f t)) := by
 obtain ⟨row, h2, _, h3⟩ := hr.2 f (by omega)
 exact p_has (T := T) h h2 (h3 t hf ht hij)
/-- The table holds the nodes ahead of one. -/
def TbV (l : List Int) (ts : List RT) (n : Nat) (tb : List (List (List Bool))) : Prop := ∀ c, c < n → ∃ rows, tb[c]? = some rows ∧ RowsA l (getT ts (c : Int)) rows
theorem p_lookCat {p : List Nd} {K : List (List Int)} {l : List Int} {tb : List (List (List Bool))} {ks : List Int} {a b f t : Nat} {A B : RT} (hl : l.length ≤ 1000) (ha : rd? ks 0 = some (a : Int)) (hb : rd? ks 1 = some (b : Int)) {ra rb : List (List Bool)} (ha1 : tb[a]? = some ra) (ha2 : RowsA l A ra) (hb1 : tb[b]? = some rb) (hb2 : RowsA l B rb) (hf : f ≤ t) (ht : t ≤ l.length) : ∀ (n i k : Nat), i + n = t - f + 1 → n < k →
  z18.l2 p K l tb f t ks k ((f + i : Nat) : Int) = some (if (List.range' i n).any (fun i => acc A (seg l f (f + i)) && acc B (seg l (f + i) t)) then .ret true else .go ()) := by
 intro n
 induction n with
 | zero =>
  intro i k hi hk
  obtain ⟨k, rfl⟩ := Nat.exists_eq_succ_of_ne_zero (show k ≠ 0 by omega)
  rw [z18.l2, if_neg (by simp; omega)]
  rfl
 | succ n ih =>
  intro i k hi hk
  obtain ⟨k, rfl⟩ := Nat.exists_eq_succ_of_ne_zero (show k ≠ 0 by omega)
  rw [z18.l2, if_pos (by simp; omega), ha, hb]
  simp only [Option.bind_some]
  rw [ha2.has ha1 (by omega) (by omega), hb2.has hb1 (by omega) ht]
  simp only [Option.bind_some]
  rw [List.range'_succ, List.any_cons]
  have e : (if acc A (seg l f (f + i)) = true then some (acc B (seg l (f + i) t)) else some false) = some (acc A (seg l f (f + i)) && acc B (seg l (f + i) t)) := by cases acc A (seg l f (f + i)) <;> rfl
  rw [e]
  simp only [Option.bind_some]
  cases acc A (seg l f (f + i)) && acc B (seg l (f + i) t) with
  | true => simp
  | false =>
   simp only [Bool.false_eq_true, if_false, Bool.false_or]
   rw [yv (by omega) (by omega), show (((f + i : Nat)) : Int) + 1 = ((f + (i + 1) : Nat) : Int) by omega]
   exact ih (i + 1) k (by omega) (by omega)
theorem p_lookStar {p : List Nd} {K : List (List Int)} {l : List Int} {tb : List (List (List Bool))} {ks : List Int} {a c f t : Nat} {A S : RT} (hl : l.length ≤ 1000) (ha : rd? ks 0 = some (a : Int)) {ra rc : List (List Bool)} (ha1 : tb[a]? = some ra) (ha2 : RowsA l A ra) (hc1 : tb[c]? = some rc) (hc2 : RowsV l S f t rc) (hf : f ≤ t) (ht : t ≤ l.length) : ∀ (n i k : Nat), i + n = t - f → n < k →
  z18.l1 p K l tb c f t ks k ((f + 1 + i : Nat) : Int) = some (if (List.range' i n).any (fun i => acc A (seg l f (f + 1 + i)) && acc S (seg l (f + 1 + i) t)) then .ret (.ret true) else .go ()) := by
 intro n
 induction n with
 | zero =>
  intro i k hi hk
  obtain ⟨k, rfl⟩ := Nat.exists_eq_succ_of_ne_zero (show k ≠ 0 by omega)
  rw [z18.l1, if_neg (by simp; omega)]
  rfl
 | succ n ih =>
  intro i k hi hk
  obtain ⟨k, rfl⟩ := Nat.exists_eq_succ_of_ne_zero (show k ≠ 0 by omega)
  rw [z18.l1, if_pos (by simp; omega), ha]
  simp only [Option.bind_some]
  rw [ha2.has ha1 (by omega) (by omega), hc2.has hc1 (by omega) ht (.inl (by omega))]
  simp only [Option.bind_some]
  rw [List.range'_succ, List.any_cons]
  have e : (if acc A (seg l f (f + 1 + i)) = true then some (acc S (seg l (f + 1 + i) t)) else some false) = some (acc A (seg l f (f + 1 + i)) && acc S (seg l (f + 1 + i) t)) := by cases acc A (seg l f (f + 1 + i)) <;> rfl
  rw [e]
  simp only [Option.bind_some]
  cases acc A (seg l f (f + 1 + i)) && acc S (seg l (f + 1 + i) t) with
  | true => simp
  | false =>
   simp only [Bool.false_eq_true, if_false, Bool.false_or]
   rw [yv (by omega) (by omega), show (((f + 1 + i : Nat)) : Int) + 1 = ((f + 1 + (i + 1) : Nat) : Int) by omega]
   exact ih (i + 1) k (by omega) (by omega)
theorem p_look {p : List Nd} {K : List (List Int)} {l : List Int} {tb : List (List (List Bool))} (hp : p.length ≤ 1000) (hset : ∀ u ∈ p, u.2.length ≤ 1000) (hl : l.length ≤ 1000) (hK : Kids p K p.length) {k : Nat} (hk : k < p.length) (htb : TbV l (trs p K) k tb) {rows : List (List Bool)} (hrow : tb[k]? = some rows) {f t : Nat} (hV : RowsV l (getT (trs p K) (k : Int)) f t rows) (hf : f ≤ t) (ht : t ≤ l.length) :
  z18.f p K l tb (k : Int) (f : Int) (t : Int) = some (acc (getT (trs p K) (k : Int)) (seg l f t)) := by
 obtain ⟨ks, hks, hko⟩ := hK.2 k hk hk
 obtain ⟨k0, k1, k2, k3⟩ := hko
 unfold z18.f
 rw [rd?_get' hks, rd?_at hk]
 simp only [Option.bind_some]
 have hsk := hset _ (List.getElem_mem hk)
 rcases ar_cases k3 with h | h | h | h | h | h | h
 ·-- nil
  have ht' := trs_at hK hk hks (by rw [k0 (by rw [h]; rfl)]; simp)
  rw [ht']
  simp only [h, mkT, if_true, beq_self_eq_true, Option.bind_some]
  rw [acc_nil_seg l f t hf ht]
  congr 1
  rw [Bool.eq_iff_iff]
  simp
  omega
 ·-- set
  have ht' := trs_at hK hk hks (by rw [k0 (by rw [h]; rfl)]; simp)
  rw [ht']
  have hm : mkT p[k] (ks.map (getT (trs p K))) = .set p[k].2 := by unfold mkT; rw [if_neg (by omega), if_pos h]
  rw [hm, acc_set_seg _ l f t hf ht]
  simp only [h]
  have c1 : ((2 : Int) == 1) = false := by decide
  have c2 : ((2 : Int) == 2) = true := by decide
  simp only [c1, c2, Bool.false_eq_true, if_false, if_true]
  rw [y03 f (by omega)]
  by_cases hft : t = f + 1
  ·subst hft
   rw [if_pos (by simp), rd?_at (show f < l.length by omega)]
   simp only [Option.bind_some]
   rw [p_implIn _ _ (by omega)]
   simp
  ·rw [if_neg (by simp; omega), dif_neg hft]
   rfl
 ·-- cat
  obtain ⟨g, e1, g0, g1, _⟩ := k2 (by rw [h]; rfl)
  obtain ⟨g, rfl⟩ := Int.eq_ofNat_of_zero_le g0
  have e2 : ((k : Int) - 1) = ((k - 1 : Nat) : Int) := by omega
  rw [e2] at e1
  have ht' := trs_at hK hk hks (by rw [e1]; intro c hc; simp at hc; omega)
  obtain ⟨ra, ha1, ha2⟩ := htb g (by omega)
  obtain ⟨rb, hb1, hb2⟩ := htb (k - 1) (by omega)
  have hm : mkT p[k] (ks.map (getT (trs p K))) = .cat (getT (trs p K) (g : Int)) (getT (trs p K) ((k - 1 : Nat) : Int)) := by rw [e1]; unfold mkT; simp [h]
  rw [ht', hm, acc_cat_seg _ _ l f t hf ht]
  have hl2 := p_lookCat (p := p) (K := K) (ks := ks) hl (by rw [e1]; rfl) (by rw [e1]; rfl) ha1 ha2 hb1 hb2 hf ht (t - f + 1) 0 (((t : Int) - (f : Int)).toNat + 2) (by omega) (by omega)
  simp only [Nat.add_zero] at hl2
  simp only [h]
  have c1 : ((3 : Int) == 1) = false := by decide
  have c2 : ((3 : Int) == 2) = false := by decide
  have c4 : ((3 : Int) == 4) = false := by decide
  have c5 : ((3 : Int) == 5) = false := by decide
  have c7 : ((3 : Int) == 7) = false := by decide
  have c6 : ((3 : Int) == 6) = false := by decide
  simp only [c1, c2, c4, c5, c6, c7, Bool.false_eq_true, if_false, Option.bind_some]
  rw [hl2, List.range_eq_range']
  simp only [Option.bind_some]
  cases (List.range' 0 (t - f + 1)).any fun i => acc (getT (trs p K) (g : Int)) (seg l f (f + i)) && acc (getT (trs p K) ((k - 1 : Nat) : Int)) (seg l (f + i) t) <;> rfl
 ·-- or
  obtain ⟨g, e1, g0, g1, _⟩ := k2 (by rw [h]; rfl)
  obtain ⟨g, rfl⟩ := Int.eq_ofNat_of_zero_le g0
  have e2 : ((k : Int) - 1) = ((k - 1 : Nat) : Int) := by omega
  rw [e2] at e1
  have ht' := trs_at hK hk hks (by rw [e1]; intro c hc; simp at hc; omega)
  obtain ⟨ra, ha1, ha2⟩ := htb g (by omega)
  obtain ⟨rb, hb1, hb2⟩ := htb (k - 1) (by omega)
  have hm : mkT p[k] (ks.map (getT (trs p K))) = .or (getT (trs p K) (g : Int)) (getT (trs p K) ((k - 1 : Nat) : Int)) := by rw [e1]; unfold mkT; simp [h]
  have r0 : rd? ks 0 = some (g : Int) := by rw [e1]; rfl
  have r1 : rd? ks 1 = some ((k - 1 : Nat) : Int) := by rw [e1]; rfl
  rw [ht', hm]
  simp only [h]
  have c1 : ((4 : Int) == 1) = false := by decide
  have c2 : ((4 : Int) == 2) = false := by decide
  have c4 : ((4 : Int) == 4) = true := by decide
  simp only [c1, c2, c4, Bool.false_eq_true, if_false, if_true, r0, r1, Option.bind_some, ha2.has ha1 hf ht, hb2.has hb1 hf ht]
  show _ = some (acc _ _ || acc _ _)
  cases acc (getT (trs p K) (g : Int)) (seg l f t) <;> rfl
 ·-- and
  obtain ⟨g, e1, g0, g1, _⟩ := k2 (by rw [h]; rfl)
  obtain ⟨g, rfl⟩ := Int.eq_ofNat_of_zero_le g0
  have e2 : ((k : Int) - 1) = ((k - 1 : Nat) : Int) := by omega
  rw [e2] at e1
  have ht' := trs_at hK hk hks (by rw [e1]; intro c hc; simp at hc; omega)
  obtain ⟨ra, ha1, ha2⟩ := htb g (by omega)
  obtain ⟨rb, hb1, hb2⟩ := htb (k - 1) (by omega)
  have hm : mkT p[k] (ks.map (getT (trs p K))) = .and (getT (trs p K) (g : Int)) (getT (trs p K) ((k - 1 : Nat) : Int)) := by rw [e1]; unfold mkT; simp [h]
  have r0 : rd? ks 0 = some (g : Int) := by rw [e1]; rfl
  have r1 : rd? ks 1 = some ((k - 1 : Nat) : Int) := by rw [e1]; rfl
  rw [ht', hm]
  simp only [h]
  have c1 : ((5 : Int) == 1) = false := by decide
  have c2 : ((5 : Int) == 2) = false := by decide
  have c4 : ((5 : Int) == 4) = false := by decide
  have c5 : ((5 : Int) == 5) = true := by decide
  simp only [c1, c2, c4, c5, Bool.false_eq_true, if_false, if_true, r0, r1, Option.bind_some, ha2.has ha1 hf ht, hb2.has hb1 hf ht]
  show _ = some (acc _ _ && acc _ _)
  cases acc (getT (trs p K) (g : Int)) (seg l f t) <;> rfl
 ·-- star
  obtain ⟨e1, g1⟩ := k1 (by rw [h]; rfl)
  have e2 : ((k : Int) - 1) = ((k - 1 : Nat) : Int) := by omega
  rw [e2] at e1
  have ht' := trs_at hK hk hks (by rw [e1]; intro c hc; simp at hc; omega)
  obtain ⟨ra, ha1, ha2⟩ := htb (k - 1) (by omega)
  have hm : mkT p[k] (ks.map (getT (trs p K))) = .star (getT (trs p K) ((k - 1 : Nat) : Int)) := by rw [e1]; unfold mkT; simp [h]
  rw [hm] at ht'
  rw [ht'] at hV ⊢
  rw [acc_star_seg _ l f t hf ht]
  have hl2 := p_lookStar (p := p) (K := K) (ks := ks) hl (by rw [e1]; rfl) ha1 ha2 hrow hV hf ht (t - f) 0 (((t : Int) - (((f + 1 : Nat)) : Int)).toNat + 2) (by omega) (by omega)
  simp only [Nat.add_zero] at hl2
  simp only [h]
  have c1 : ((6 : Int) == 1) = false := by decide
  have c2 : ((6 : Int) == 2) = false := by decide
  have c4 : ((6 : Int) == 4) = false := by decide
  have c5 : ((6 : Int) == 5) = false := by decide
  have c7 : ((6 : Int) == 7) = false := by decide
  have c6 : ((6 : Int) == 6) = true := by decide
  simp only [c1, c2, c4, c5, c6, c7, Bool.false_eq_true, if_false, if_true]
  by_cases hft : f = t
  ·subst hft
   rw [if_pos (by simp)]
   simp
  ·rw [if_neg (by simp; omega), y03 f (by omega), hl2, List.range_eq_range']
   have : decide (f = t) = false := by simpa using hft
   rw [this, Bool.false_or]
   simp only [Option.bind_some]
   cases (List.range' 0 (t - f)).any fun i => acc (getT (trs p K) ((k - 1 : Nat) : Int)) (seg l f (f + 1 + i)) && acc (.star (getT (trs p K) ((k - 1 : Nat) : Int))) (seg l (f + 1 + i) t) <;> rfl
 ·-- not
  obtain ⟨e1, g1⟩ := k1 (by rw [h]; rfl)
  have e2 : ((k : Int) - 1) = ((k - 1 : Nat) : Int) := by omega
  rw [e2] at e1
  have ht' := trs_at hK hk hks (by rw [e1]; intro c hc; simp at hc; omega)
  obtain ⟨ra, ha1, ha2⟩ := htb (k - 1) (by omega)
  have hm : mkT p[k] (ks.map (getT (trs p K))) = .not (getT (trs p K) ((k - 1 : Nat) : Int)) := by rw [e1]; unfold mkT; simp [h]
  have r0 : rd? ks 0 = some ((k - 1 : Nat) : Int) := by rw [e1]; rfl
  rw [ht', hm]
  simp only [h]
  have c1 : ((7 : Int) == 1) = false := by decide
  have c2 : ((7 : Int) == 2) = false := by decide
  have c4 : ((7 : Int) == 4) = false := by decide
  have c5 : ((7 : Int) == 5) = false := by decide
  have c7 : ((7 : Int) == 7) = true := by decide
  simp only [c1, c2, c4, c5, c7, Bool.false_eq_true, if_false, if_true, r0, Option.bind_some, ha2.has ha1 hf ht]
  rfl
theorem RowsV.last {l : List Int} {T : RT} {f : Nat} {rows : List (List Bool)} (h : RowsV l T f (l.length + 1) rows) : ∀ g, g + 1 = f → RowsV l T g g rows := fun g hg =>
 ⟨h.1, fun r hr => by
  obtain ⟨row, h1, h2, h3⟩ := h.2 r hr
  exact ⟨row, h1, h2, fun t ht htl ho => h3 t ht htl (by omega)⟩⟩
theorem RowsV.all {l : List Int} {T : RT} {rows : List (List Bool)} (h : RowsV l T 0 (l.length + 1) rows) : RowsA l T rows :=
 ⟨h.1, fun r hr => by
  obtain ⟨row, h1, h2, h3⟩ := h.2 r hr
  exact ⟨row, h1, h2, fun t ht htl => h3 t ht htl (by omega)⟩⟩
theorem TbV.app {l : List Int} {ts : List RT} {tb : List (List (List Bool))} (h : TbV l ts tb.length tb) (r : List (List Bool)) : TbV l ts tb.length (tb ++ [r]) := fun c hc => by
 obtain ⟨rows, h1, h2⟩ := h c hc
 exact ⟨rows, by rw [List.getElem?_append_left hc]; exact h1, h2⟩
theorem p_fillRows (l : List Int) (hl : l.length ≤ 1000) (X : List (List Bool)) (hX : X.length ≤ 2000) : ∀ (m i k : Nat), i + m = X.length → m < k → z19.l2 l X k (List.replicate i (List.replicate (l.length + 1) false) ++ List.replicate m []) (i : Int) = some (List.replicate (i + m) (List.replicate (l.length + 1) false)) := by
 intro m
 induction m with
 | zero =>
  intro i k hi hk
  obtain ⟨k, rfl⟩ := Nat.exists_eq_succ_of_ne_zero (show k ≠ 0 by omega)
  rw [z19.l2, if_neg (by simp; omega)]
  simp
 | succ m ih =>
  intro i k hi hk
  obtain ⟨k, rfl⟩ := Nat.exists_eq_succ_of_ne_zero (show k ≠ 0 by omega)
  have r1 := rd_mid (List.replicate i (List.replicate (l.length + 1) false)) ([] : List Bool) (List.replicate m [])
  have r2 := st_mid (List.replicate i (List.replicate (l.length + 1) false)) ([] : List Bool) (List.replicate (l.length + 1) false) (List.replicate m [])
  rw [List.length_replicate] at r1 r2
  rw [z19.l2, if_pos (by simp; omega), y03 l.length (by omega), mk?_at (by omega), List.replicate_succ (n := m), r1]
  simp only [Option.bind_some]
  rw [r2]
  simp only [Option.bind_some]
  rw [y03 i (by omega)]
  have := ih (i + 1) k (by omega) (by omega)
  rw [List.replicate_succ' (n := i), List.append_assoc] at this
  rw [show List.replicate m ([] : List Bool) = List.replicate m [] from rfl, show i + (m + 1) = i + 1 + m by omega]
  exact this
theorem p_l4 {p : List Nd} {K : List (List Int)} {bo : Bool} {l : List Int} {tb : List (List (List Bool))} {r0 : List (List Bool)} (hp : p.length ≤ 1000) (hset : ∀ u ∈ p, u.2.length ≤ 1000) (hl : l.length ≤ 1000) (hK : Kids p K p.length) (hk : tb.length < p.length) (htb : TbV l (trs p K) tb.length tb) {f : Nat} (hf : f ≤ l.length) : ∀ (m t k : Nat) (rows : List (List Bool)), f ≤ t → t + m = l.length + 1 → m < k → RowsV l (getT (trs p K) (tb.length : Int)) f t rows → ∃ rows', z19.l4 p l (K, bo) (tb.length : Int) tb (tb ++ [r0]) (f : Int) k rows (t : Int) = some rows' ∧ RowsV l (getT (trs p K) (tb.length : Int)) f (l.length + 1) rows' := by
 intro m
 induction m with
 | zero =>
  intro t k rows h1 h2 hk2 hV
  obtain ⟨k, rfl⟩ := Nat.exists_eq_succ_of_ne_zero (show k ≠ 0 by omega)
  rw [z19.l4, if_neg (by simp; omega)]
  obtain rfl : t = l.length + 1 := by omega
  exact ⟨rows, rfl, hV⟩
 | succ m ih =>
  intro t k rows h1 h2 hk2 hV
  obtain ⟨k, rfl⟩ := Nat.exists_eq_succ_of_ne_zero (show k ≠ 0 by omega)
  obtain ⟨row, e1, e2, e3⟩ := hV.2 f hf
  have hrl : f < rows.length := by rw [hV.1]; omega
  have q1 := st_mid tb r0 rows []
  have q2 := p_look hp hset hl hK hk (htb.app rows) (rows := rows) (by rw [List.getElem?_append_right (Nat.le_refl _)]; simp) hV h1 (show t ≤ l.length by omega)
  rw [z19.l4, if_pos (by simp; omega), rd?_get' e1]
  simp only [Option.bind_some]
  rw [q1]
  simp only [Option.bind_some]
  rw [q2]
  simp only [Option.bind_some]
  rw [rd?_at (show t < row.length by omega)]
  simp only [Option.bind_some]
  rw [st?_at _ (show t < row.length by omega)]
  simp only [Option.bind_some]
  rw [st?_at _ hrl]
  simp only [Option.bind_some]
  rw [y03 t (by omega)]
  refine ih (t + 1) k _ (by omega) (by omega) (by omega) ⟨by simpa using hV.1, fun r hr => ?_⟩
  by_cases hfr : f = r
  ·subst hfr
   refine ⟨_, List.getElem?_set_self hrl, by simpa using e2, fun t' g1 g2 g3 => ?_⟩
   by_cases htt : t = t'
   ·subst htt
    rw [List.getElem?_set_self (by omega)]
   ·rw [List.getElem?_set_ne htt]
    exact e3 t' g1 g2 (by omega)
  ·obtain ⟨row', b1, b2, b3⟩ := hV.2 r hr
   exact ⟨row', by rw [List.getElem?_set_ne hfr]; exact b1, b2, fun t' g1 g2 g3 => b3 t' g1 g2 (by omega)⟩
theorem p_l3 {p : List Nd} {K : List (List Int)} {bo : Bool} {l : List Int} {tb : List (List (List Bool))} {r0 : List (List Bool)} (hp : p.length ≤ 1000) (hset : ∀ u ∈ p, u.2.length ≤ 1000) (hl : l.length ≤ 1000) (hK : Kids p K p.length) (hk : tb.length < p.length) (htb : TbV l (trs p K) tb.length tb) : ∀ (q k : Nat) (rows : List (List Bool)), q ≤ l.length + 1 → q < k → RowsV l (getT (trs p K) (tb.length : Int)) q (l.length + 1) rows → ∃ rows', z19.l3 p l (K, bo) (tb.length : Int) tb (tb ++ [r0]) k rows ((q : Int) - 1) = some (tb ++ [rows']) ∧ RowsA l (getT (trs p K) (tb.length : Int)) rows' := by
 intro q
 induction q with
 | zero =>
  intro k rows h1 hk2 hV
  obtain ⟨k, rfl⟩ := Nat.exists_eq_succ_of_ne_zero (show k ≠ 0 by omega)
  rw [z19.l3, if_neg (by decide), st_mid tb r0 rows []]
  exact ⟨rows, rfl, hV.all⟩
 | succ q ih =>
  intro k rows h1 hk2 hV
  obtain ⟨k, rfl⟩ := Nat.exists_eq_succ_of_ne_zero (show k ≠ 0 by omega)
  rw [show ((q + 1 : Nat) : Int) - 1 = (q : Int) by omega, z19.l3, if_pos (by simp)]
  obtain ⟨rows', e1, e2⟩ := p_l4 (bo := bo) (r0 := r0) hp hset hl hK hk htb (f := q) (by omega) (l.length + 1 - q) q (((l.length : Int) - (q : Int)).toNat + 2) rows (Nat.le_refl _) (by omega) (by omega) (hV.last q rfl)
  rw [e1]
  simp only [Option.bind_some]
  rw [yv (by omega) (by omega)]
  exact ih k rows' (by omega) (by omega) e2
theorem p_l1 {p : List Nd} {K : List (List Int)} {bo : Bool} {l : List Int} (hp : p.length ≤ 1000) (hset : ∀ u ∈ p, u.2.length ≤ 1000) (hl : l.length ≤ 1000) (hK : Kids p K p.length) : ∀ (m k : Nat) (tb : List (List (List Bool))), tb.length + m = p.length → m < k → TbV l (trs p K) tb.length tb → ∃ tb', z19.l1 p l (K, bo) k (tb.length : Int) tb = some tb' ∧ tb'.length = p.length ∧ TbV l (trs p K) p.length tb' := by
 intro m
 induction m with
 | zero =>
  intro k tb h1 hk htb
  obtain ⟨k, rfl⟩ := Nat.exists_eq_succ_of_ne_zero (show k ≠ 0 by omega)
  rw [z19.l1, if_neg (by simp; omega)]
  exact ⟨tb, rfl, by omega, by rw [← show tb.length = p.length by omega]; exact htb⟩
 | succ m ih =>
  intro k tb h1 hk htb
  obtain ⟨k, rfl⟩ := Nat.exists_eq_succ_of_ne_zero (show k ≠ 0 by omega)
  rw [z19.l1, if_pos (by simp; omega), y03 l.length (by omega), mk?_at (by omega)]
  simp only [Option.bind_some]
  have f1 := p_fillRows l hl (List.replicate (l.length + 1) []) (by simp; omega) (l.length + 1) 0 ((((List.replicate (l.length + 1) ([] : List Bool)).length : Int) - 0).toNat + 2) (by simp) (by simp)
  rw [List.replicate_zero, List.nil_append, show ((0 : Nat) : Int) = 0 from rfl, Nat.zero_add] at f1
  rw [f1]
  simp only [Option.bind_some]
  rw [app?_at (by simp; omega)]
  simp only [Option.bind_some]
  obtain ⟨rows', e1, e2⟩ := p_l3 (bo := bo) (r0 := List.replicate (l.length + 1) (List.replicate (l.length + 1) false)) hp hset hl hK (show tb.length < p.length by omega) htb (l.length + 1) (((l.length : Int) - 0).toNat + 2) (List.replicate (l.length + 1) (List.replicate (l.length + 1) false)) (Nat.le_refl _) (by omega) ⟨by simp, fun r hr => ⟨List.replicate (l.length + 1) false, by rw [List.getElem?_replicate, if_pos (by omega)], by simp, fun t _ _ _ => by omega⟩⟩
  rw [show ((l.length + 1 : Nat) : Int) - 1 = (l.length : Int) by omega] at e1
  rw [e1]
  simp only [Option.bind_some]
  rw [y03 tb.length (by omega)]
  have := ih k (tb ++ [rows']) (by simp; omega) (by omega) (by
   rw [List.length_append, List.length_singleton]
   intro c hc
   by_cases hct : c < tb.length
   ·exact htb.app rows' c hct
   ·obtain rfl : c = tb.length := by omega
    exact ⟨rows', by rw [List.getElem?_append_right (Nat.le_refl _)]; simp, e2⟩)
  rw [List.length_append, List.length_singleton] at this
  exact this
theorem p_match {p : List Nd} {K : List (List Int)} {q : List Int} {l : List Int} (hp : p.length ≤ 1000) (hset : ∀ u ∈ p, u.2.length ≤ 1000) (hl : l.length ≤ 1000) (h : pileR p 0 [] [] = some (K, q)) : Kids p K p.length ∧ ∃ tb, z19.f p l = some (p, K, l, tb) ∧ tb.length = p.length ∧ TbV l (trs p K) p.length tb := by
 have hK : Kids p K p.length := (kids_of p hp p [] [] [] K q rfl rfl ⟨rfl, fun k hk => by simp at hk⟩ h).1
 refine ⟨hK, ?_⟩
 obtain ⟨tb, e1, e2, e3⟩ := p_l1 (bo := ((q.length : Int) == 1)) hp hset hl hK p.length (((p.length : Int) - 0).toNat + 2) [] (by simp) (by omega) (fun c hc => by simp at hc)
 refine ⟨tb, ?_, e2, e3⟩
 unfold z19.f
 rw [p_parts p (by omega), h]
 simp only [Option.bind_some]
 rw [show (([] : List (List (List Bool))).length : Int) = 0 from rfl] at e1
 rw [e1]
 rfl
theorem ix_flat {n f t : Nat} (hn : n ≤ 1000) (hf : f ≤ n) (ht : t ≤ n) : IntKind.i64.wrap ((IntKind.i64.wrap ((f : Int) * (IntKind.i64.wrap ((n : Int) + 1)))) + (t : Int)) = ((f * (n + 1) + t : Nat) : Int) := by
 have h1 : f * (n + 1) ≤ 1000 * 1001 := Nat.mul_le_mul (by omega) (by omega)
 have h2 : (f : Int) * ((n + 1 : Nat) : Int) = ((f * (n + 1) : Nat) : Int) := by rw [Int.natCast_mul]
 rw [y03 n (by omega), h2]
 rw [yv (n := ((f * (n + 1) : Nat) : Int)) (by omega) (by omega), yv (by omega) (by omega)]
 omega
theorem ix_lt {n f t : Nat} (hf : f ≤ n) (ht : t ≤ n) : f * (n + 1) + t < (n + 1) * (n + 1) := by
 have h1 : f * (n + 1) ≤ n * (n + 1) := Nat.mul_le_mul hf (Nat.le_refl _)
 have h2 : (n + 1) * (n + 1) = n * (n + 1) + (n + 1) := Nat.succ_mul n (n + 1)
 omega
theorem ix_inj {n f t f' t' : Nat} (ht : t ≤ n) (ht' : t' ≤ n) (h : f * (n + 1) + t = f' * (n + 1) + t') : f = f' ∧ t = t' := by
 have a1 : (f * (n + 1) + t) / (n + 1) = f := by
  rw [Nat.mul_comm, Nat.mul_add_div (by omega), Nat.div_eq_of_lt (by omega), Nat.add_zero]
 have a2 : (f' * (n + 1) + t') / (n + 1) = f' := by
  rw [Nat.mul_comm, Nat.mul_add_div (by omega), Nat.div_eq_of_lt (by omega), Nat.add_zero]
 have : f = f' := by rw [← a1, ← a2, h]
 subst this
 exact ⟨rfl, by omega⟩
/-- A node's cells, laid flat. -/
def FlatV (l : List Int) (T : RT) (i j : Nat) (fl : List Bool) : Prop := fl.length = (l.length + 1) * (l.length + 1) ∧ ∀ f t, f ≤ t → t ≤ l.length → (i < f ∨ f = i ∧ t < j) → fl[f * (l.length + 1) + t]? = some (acc T (seg l f t))
def FlatA (l : List Int) (T : RT) (fl : List Bool) : Prop := fl.length = (l.length + 1) * (l.length + 1) ∧ ∀ f t, f ≤ t → t ≤ l.length → fl[f * (l.length + 1) + t]? = some (acc T (seg l f t))
theorem FlatA.rd {l : List Int} {T : RT} {fl : List Bool} (h : FlatA l T fl) (hl : l.length ≤ 1000) {f t : Nat} (hf : f ≤ t) (ht : t ≤ l.length) : rd? fl (IntKind.i64.wrap ((IntKind.i64.wrap ((f : Int) * (IntKind.i64.wrap ((l.length : Int) + 1)))) + (t : Int))) = some (acc T (seg l f t)) := by
 rw [ix_flat hl (by omega) ht]
 exact rd?_get' (h.2 f t hf ht)
theorem FlatV.rd {l : List Int} {T : RT} {fl : List Bool} {i j : Nat} (h : FlatV l T i j fl) (hl : l.length ≤ 1000) {f t : Nat} (hf : f ≤ t) (ht : t ≤ l.length) (hij : i < f ∨ f = i ∧ t < j) : rd? fl (IntKind.i64.wrap ((IntKind.i64.wrap ((f : Int) * (IntKind.i64.wrap ((l.length : Int) + 1)))) + (t : Int))) = some (acc T (seg l f t)) := by
 rw [ix_flat hl (by omega) ht]
 exact rd?_get' (h.2 f t hf ht hij)
def TfV (l : List Int) (ts : List RT) (n : Nat) (tb : List (List Bool)) : Prop := ∀ c, c < n → ∃ fl, tb[c]? = some fl ∧ FlatA l (getT ts (c : Int)) fl
theorem p_cellCat {l : List Int} {fa fb : List Bool} {A B : RT} (hl : l.length ≤ 1000) {f t : Nat} (ha : FlatA l A fa) (hb : FlatA l B fb) (hf : f ≤ t) (ht : t ≤ l.length) : ∀ (n i k : Nat), i + n = t - f + 1 → n < k →
  z1e.l2 l f t fa fb k ((f + i : Nat) : Int) = some (if (List.range' i n).any (fun i => acc A (seg l f (f + i)) && acc B (seg l (f + i) t)) then .ret true else .go ()) := by
 intro n
 induction n with
 | zero =>
  intro i k hi hk
  obtain ⟨k, rfl⟩ := Nat.exists_eq_succ_of_ne_zero (show k ≠ 0 by omega)
  rw [z1e.l2, if_neg (by simp; omega)]
  rfl
 | succ n ih =>
  intro i k hi hk
  obtain ⟨k, rfl⟩ := Nat.exists_eq_succ_of_ne_zero (show k ≠ 0 by omega)
  rw [z1e.l2, if_pos (by simp; omega), ha.rd hl (by omega) (by omega), hb.rd hl (by omega) ht]
  simp only [Option.bind_some]
  rw [List.range'_succ, List.any_cons]
  have e : (if acc A (seg l f (f + i)) = true then some (acc B (seg l (f + i) t)) else some false) = some (acc A (seg l f (f + i)) && acc B (seg l (f + i) t)) := by cases acc A (seg l f (f + i)) <;> rfl
  rw [e]
  simp only [Option.bind_some]
  cases acc A (seg l f (f + i)) && acc B (seg l (f + i) t) with
  | true => simp
  | false =>
   simp only [Bool.false_eq_true, if_false, Bool.false_or]
   rw [yv (n := ((f + i : Nat) : Int) + 1) (by omega) (by omega), show (((f + i : Nat)) : Int) + 1 = ((f + (i + 1) : Nat) : Int) by omega]
   exact ih (i + 1) k (by omega) (by omega)
/-- Where the rest is empty, a repetition holds. -/
theorem acc_star_nil (A : RT) (l : List Int) (t : Nat) (ht : t ≤ l.length) : acc (.star A) (seg l t t) = true := by
 rw [acc_star_seg A l t t (Nat.le_refl _) ht]
 simp
theorem p_cellStar {l : List Int} {tb : List (List Bool)} {fl fa : List Bool} {A : RT} {k : Nat} {K : RT} (hl : l.length ≤ 1000) {f t : Nat} (hk1 : 1 ≤ k) (hk2 : k ≤ 1000) (ha0 : tb[k - 1]? = some fa) (ha : FlatA l A fa) (hs : FlatV l (.star A) f t fl) (hf : f ≤ t) (ht : t ≤ l.length) : ∀ (n i kf : Nat), i + n = t - f → n < kf →
  z1e.l1 tb fl l k f t kf ((f + 1 + i : Nat) : Int) = some (if (List.range' i n).any (fun i => acc A (seg l f (f + 1 + i)) && acc (.star A) (seg l (f + 1 + i) t)) then .ret (.ret true) else .go ()) := by
 intro n
 induction n with
 | zero =>
  intro i kf hi hk
  obtain ⟨kf, rfl⟩ := Nat.exists_eq_succ_of_ne_zero (show kf ≠ 0 by omega)
  rw [z1e.l1, if_neg (by simp; omega)]
  rfl
 | succ n ih =>
  intro i kf hi hk
  obtain ⟨kf, rfl⟩ := Nat.exists_eq_succ_of_ne_zero (show kf ≠ 0 by omega)
  rw [z1e.l1, if_pos (by simp; omega), yv (n := (k : Int) - 1) (by omega) (by omega), show (k : Int) - 1 = ((k - 1 : Nat) : Int) by omega, rd?_get' ha0]
  simp only [Option.bind_some]
  rw [ha.rd hl (by omega) (by omega)]
  simp only [Option.bind_some]
  rw [List.range'_succ, List.any_cons, hs.rd hl (by omega) ht (.inl (by omega))]
  simp only [Option.bind_some]
  have e : (if acc A (seg l f (f + 1 + i)) = true then (if (((f + 1 + i : Nat) : Int) == (t : Int)) = true then some true else some (acc (.star A) (seg l (f + 1 + i) t))) else some false) = some (acc A (seg l f (f + 1 + i)) && acc (.star A) (seg l (f + 1 + i) t)) := by
   cases acc A (seg l f (f + 1 + i)) with
   | false => rfl
   | true =>
    by_cases hc : f + 1 + i = t
    ·rw [hc, acc_star_nil A l t ht]; simp
    ·rw [if_neg (show ¬ (((f + 1 + i : Nat) : Int) == (t : Int)) = true by simp; omega)]; simp
  rw [e]
  simp only [Option.bind_some]
  cases acc A (seg l f (f + 1 + i)) && acc (.star A) (seg l (f + 1 + i) t) with
  | true => simp
  | false =>
   simp only [Bool.false_eq_true, if_false, Bool.false_or]
   rw [yv (n := ((f + 1 + i : Nat) : Int) + 1) (by omega) (by omega), show (((f + 1 + i : Nat)) : Int) + 1 = ((f + 1 + (i + 1) : Nat) : Int) by omega]
   have := ih (i + 1) kf (by omega) (by omega)
   rw [show (k : Int) = (k : Int) from rfl] at this
   exact this
theorem p_cell {p : List Nd} {K : List (List Int)} {l : List Int} {tb : List (List Bool)} {fl : List Bool} (hp : p.length ≤ 1000) (hset : ∀ u ∈ p, u.2.length ≤ 1000 ∧ u.2.length % 2 = 0) (hl : l.length ≤ 1000) (hK : Kids p K p.length) {k : Nat} (hk : k < p.length) (htb : TfV l (trs p K) k tb) {f t : Nat} (hV : FlatV l (getT (trs p K) (k : Int)) f t fl) (hf : f ≤ t) (ht : t ≤ l.length) :
  z1e.f p tb fl l (k : Int) p[k].1 p[k].2 (f : Int) (t : Int) = some (acc (getT (trs p K) (k : Int)) (seg l f t)) := by
 obtain ⟨ks, hks, hko⟩ := hK.2 k hk hk
 obtain ⟨k0, k1, k2, k3⟩ := hko
 unfold z1e.f
 have hsk := hset _ (List.getElem_mem hk)
 have hw : IntKind.i64.wrap ((k : Int) - 1) = (k : Int) - 1 := yv (by omega) (by omega)
 have leaf : ∀ h0 : ar p[k].1 = 0, getT (trs p K) (k : Int) = mkT p[k] [] := fun h0 => by
  have := trs_at hK hk hks (by rw [k0 h0]; simp)
  rw [k0 h0] at this
  exact this
 have one : ∀ h0 : ar p[k].1 = 1, 1 ≤ k ∧ getT (trs p K) (k : Int) = mkT p[k] [getT (trs p K) ((k - 1 : Nat) : Int)] ∧ ∃ ra, tb[k - 1]? = some ra ∧ FlatA l (getT (trs p K) ((k - 1 : Nat) : Int)) ra ∧ rd? tb ((k : Int) - 1) = some ra := fun h0 => by
  obtain ⟨e1, g1⟩ := k1 h0
  have e2 : ((k : Int) - 1) = ((k - 1 : Nat) : Int) := by omega
  rw [e2] at e1 ⊢
  have ht' := trs_at hK hk hks (by rw [e1]; intro c hc; simp at hc; omega)
  obtain ⟨ra, ha1, ha2⟩ := htb (k - 1) (by omega)
  rw [e1] at ht'
  exact ⟨g1, ht', ra, ha1, ha2, rd?_get' ha1⟩
 have two : ∀ h0 : ar p[k].1 = 2, ∃ g : Nat, z1d.f p (k : Int) = some (g : Int) ∧ getT (trs p K) (k : Int) = mkT p[k] [getT (trs p K) (g : Int), getT (trs p K) ((k - 1 : Nat) : Int)] ∧ ∃ ra rb, rd? tb (g : Int) = some ra ∧ FlatA l (getT (trs p K) (g : Int)) ra ∧ rd? tb ((k : Int) - 1) = some rb ∧ FlatA l (getT (trs p K) ((k - 1 : Nat) : Int)) rb := fun h0 => by
  obtain ⟨g, e1, g0, g1, g2⟩ := k2 h0
  obtain ⟨g, rfl⟩ := Int.eq_ofNat_of_zero_le g0
  have e2 : ((k : Int) - 1) = ((k - 1 : Nat) : Int) := by omega
  rw [e2] at e1 ⊢
  have ht' := trs_at hK hk hks (by rw [e1]; intro c hc; simp at hc; omega)
  obtain ⟨ra, ha1, ha2⟩ := htb g (by omega)
  obtain ⟨rb, hb1, hb2⟩ := htb (k - 1) (by omega)
  rw [e1] at ht'
  exact ⟨g, g2, ht', ra, rb, rd?_get' ha1, ha2, rd?_get' hb1, hb2⟩
 rw [hw]
 rcases ar_cases k3 with h | h | h | h | h | h | h
 ·rw [leaf (by rw [h]; rfl)]
  simp only [h, mkT, if_true, beq_self_eq_true, Option.bind_some]
  rw [acc_nil_seg l f t hf ht]
  congr 1
  rw [Bool.eq_iff_iff]
  simp
  omega
 ·have hm : mkT p[k] [] = .set p[k].2 := by unfold mkT; rw [if_neg (by omega), if_pos h]
  rw [leaf (by rw [h]; rfl), hm, acc_set_seg _ l f t hf ht]
  simp only [h]
  have c1 : ((2 : Int) == 1) = false := by decide
  have c2 : ((2 : Int) == 2) = true := by decide
  simp only [c1, c2, Bool.false_eq_true, if_false, if_true]
  rw [y03 f (by omega)]
  by_cases hft : t = f + 1
  ·subst hft
   rw [if_pos (by simp), rd?_at (show f < l.length by omega)]
   simp only [Option.bind_some]
   rw [p_specIn _ _ (by omega) hsk.2]
   simp
  ·rw [if_neg (by simp; omega), dif_neg hft]
   rfl
 ·obtain ⟨g, e1, e2, ra, rb, a1, a2, b1, b2⟩ := two (by rw [h]; rfl)
  have hm : mkT p[k] [getT (trs p K) (g : Int), getT (trs p K) ((k - 1 : Nat) : Int)] = .cat (getT (trs p K) (g : Int)) (getT (trs p K) ((k - 1 : Nat) : Int)) := by unfold mkT; simp [h]
  rw [e2, hm, acc_cat_seg _ _ l f t hf ht, e1]
  have hl2 := p_cellCat hl a2 b2 hf ht (t - f + 1) 0 (((t : Int) - (f : Int)).toNat + 2) (by omega) (by omega)
  simp only [Nat.add_zero] at hl2
  simp only [h]
  have c1 : ((3 : Int) == 1) = false := by decide
  have c2 : ((3 : Int) == 2) = false := by decide
  have c4 : ((3 : Int) == 4) = false := by decide
  have c5 : ((3 : Int) == 5) = false := by decide
  have c7 : ((3 : Int) == 7) = false := by decide
  have c6 : ((3 : Int) == 6) = false := by decide
  simp only [c1, c2, c4, c5, c6, c7, Bool.false_eq_true, if_false, Option.bind_some, a1, b1]
  rw [hl2, List.range_eq_range']
  simp only [Option.bind_some]
  cases (List.range' 0 (t - f + 1)).any fun i => acc (getT (trs p K) (g : Int)) (seg l f (f + i)) && acc (getT (trs p K) ((k - 1 : Nat) : Int)) (seg l (f + i) t) <;> rfl
 ·obtain ⟨g, e1, e2, ra, rb, a1, a2, b1, b2⟩ := two (by rw [h]; rfl)
  have hm : mkT p[k] [getT (trs p K) (g : Int), getT (trs p K) ((k - 1 : Nat) : Int)] = .or (getT (trs p K) (g : Int)) (getT (trs p K) ((k - 1 : Nat) : Int)) := by unfold mkT; simp [h]
  rw [e2, hm, e1]
  simp only [h]
  have c1 : ((4 : Int) == 1) = false := by decide
  have c2 : ((4 : Int) == 2) = false := by decide
  have c4 : ((4 : Int) == 4) = true := by decide
  have c7 : ((4 : Int) == 7) = false := by decide
  have c6 : ((4 : Int) == 6) = false := by decide
  simp only [c1, c2, c4, c6, c7, Bool.false_eq_true, if_false, if_true, Option.bind_some, a1, b1, a2.rd hl hf ht, b2.rd hl hf ht]
  show _ = some (acc _ _ || acc _ _)
  cases acc (getT (trs p K) (g : Int)) (seg l f t) <;> rfl
 ·obtain ⟨g, e1, e2, ra, rb, a1, a2, b1, b2⟩ := two (by rw [h]; rfl)
  have hm : mkT p[k] [getT (trs p K) (g : Int), getT (trs p K) ((k - 1 : Nat) : Int)] = .and (getT (trs p K) (g : Int)) (getT (trs p K) ((k - 1 : Nat) : Int)) := by unfold mkT; simp [h]
  rw [e2, hm, e1]
  simp only [h]
  have c1 : ((5 : Int) == 1) = false := by decide
  have c2 : ((5 : Int) == 2) = false := by decide
  have c4 : ((5 : Int) == 4) = false := by decide
  have c5 : ((5 : Int) == 5) = true := by decide
  have c7 : ((5 : Int) == 7) = false := by decide
  have c6 : ((5 : Int) == 6) = false := by decide
  simp only [c1, c2, c4, c5, c6, c7, Bool.false_eq_true, if_false, if_true, Option.bind_some, a1, b1, a2.rd hl hf ht, b2.rd hl hf ht]
  show _ = some (acc _ _ && acc _ _)
  cases acc (getT (trs p K) (g : Int)) (seg l f t) <;> rfl
 ·obtain ⟨g1, e2, ra, a1, a2, a3⟩ := one (by rw [h]; rfl)
  have hm : mkT p[k] [getT (trs p K) ((k - 1 : Nat) : Int)] = .star (getT (trs p K) ((k - 1 : Nat) : Int)) := by unfold mkT; simp [h]
  rw [hm] at e2
  rw [e2] at hV ⊢
  rw [acc_star_seg _ l f t hf ht]
  have hl2 := p_cellStar (K := .nil) hl g1 (by omega) a1 a2 hV hf ht (t - f) 0 (((t : Int) - (((f + 1 : Nat)) : Int)).toNat + 2) (by omega) (by omega)
  simp only [Nat.add_zero] at hl2
  simp only [h]
  have c1 : ((6 : Int) == 1) = false := by decide
  have c2 : ((6 : Int) == 2) = false := by decide
  have c7 : ((6 : Int) == 7) = false := by decide
  have c6 : ((6 : Int) == 6) = true := by decide
  simp only [c1, c2, c6, c7, Bool.false_eq_true, if_false, if_true]
  by_cases hft : f = t
  ·subst hft
   rw [if_pos (by simp)]
   simp
  ·rw [if_neg (by simp; omega), y03 f (by omega), hl2, List.range_eq_range']
   have : decide (f = t) = false := by simpa using hft
   rw [this, Bool.false_or]
   simp only [Option.bind_some]
   cases (List.range' 0 (t - f)).any fun i => acc (getT (trs p K) ((k - 1 : Nat) : Int)) (seg l f (f + 1 + i)) && acc (.star (getT (trs p K) ((k - 1 : Nat) : Int))) (seg l (f + 1 + i) t) <;> rfl
 ·obtain ⟨g1, e2, ra, a1, a2, a3⟩ := one (by rw [h]; rfl)
  have hm : mkT p[k] [getT (trs p K) ((k - 1 : Nat) : Int)] = .not (getT (trs p K) ((k - 1 : Nat) : Int)) := by unfold mkT; simp [h]
  rw [e2, hm]
  simp only [h]
  have c1 : ((7 : Int) == 1) = false := by decide
  have c2 : ((7 : Int) == 2) = false := by decide
  have c7 : ((7 : Int) == 7) = true := by decide
  simp only [c1, c2, c7, Bool.false_eq_true, if_false, if_true, Option.bind_some, a3, a2.rd hl hf ht]
  rfl
theorem FlatV.last {l : List Int} {T : RT} {f : Nat} {fl : List Bool} (h : FlatV l T f (l.length + 1) fl) : ∀ g, g + 1 = f → FlatV l T g g fl := fun g hg =>
 ⟨h.1, fun r t h1 h2 ho => h.2 r t h1 h2 (by omega)⟩
theorem FlatV.all {l : List Int} {T : RT} {fl : List Bool} (h : FlatV l T 0 (l.length + 1) fl) : FlatA l T fl :=
 ⟨h.1, fun r t h1 h2 => h.2 r t h1 h2 (by omega)⟩
theorem p_t3 {p : List Nd} {K : List (List Int)} {l : List Int} {tb : List (List Bool)} (hp : p.length ≤ 1000) (hset : ∀ u ∈ p, u.2.length ≤ 1000 ∧ u.2.length % 2 = 0) (hl : l.length ≤ 1000) (hK : Kids p K p.length) {c : Nat} (hk : c < p.length) (htb : TfV l (trs p K) c tb) {f : Nat} (hf : f ≤ l.length) : ∀ (m t k : Nat) (fl : List Bool), f ≤ t → t + m = l.length + 1 → m < k → FlatV l (getT (trs p K) (c : Int)) f t fl → ∃ fl', z1f.l3 p l tb (c : Int) p[c] (f : Int) k fl (t : Int) = some fl' ∧ FlatV l (getT (trs p K) (c : Int)) f (l.length + 1) fl' := by
 intro m
 induction m with
 | zero =>
  intro t k fl h1 h2 hk2 hV
  obtain ⟨k, rfl⟩ := Nat.exists_eq_succ_of_ne_zero (show k ≠ 0 by omega)
  rw [z1f.l3, y03 l.length (by omega), if_neg (by simp; omega)]
  obtain rfl : t = l.length + 1 := by omega
  exact ⟨fl, rfl, hV⟩
 | succ m ih =>
  intro t k fl h1 h2 hk2 hV
  obtain ⟨k, rfl⟩ := Nat.exists_eq_succ_of_ne_zero (show k ≠ 0 by omega)
  have htl : t ≤ l.length := by omega
  have q2 := p_cell hp hset hl hK hk htb hV h1 htl
  have hi : f * (l.length + 1) + t < fl.length := by rw [hV.1]; exact ix_lt hf htl
  have c1 : decide ((t : Int) < IntKind.i64.wrap ((l.length : Int) + 1)) = true := by rw [y03 l.length (by omega)]; simp; omega
  rw [z1f.l3, if_pos c1, q2]
  simp only [Option.bind_some]
  rw [ix_flat hl hf htl, rd?_at hi]
  simp only [Option.bind_some]
  rw [st?_at _ hi]
  simp only [Option.bind_some]
  rw [y03 t (by omega)]
  refine ih (t + 1) k _ (by omega) (by omega) (by omega) ⟨by simpa using hV.1, fun r t' g1 g2 g3 => ?_⟩
  by_cases he : f * (l.length + 1) + t = r * (l.length + 1) + t'
  ·obtain ⟨rfl, rfl⟩ := ix_inj htl g2 he
   rw [List.getElem?_set_self hi]
  ·rw [List.getElem?_set_ne he]
   refine hV.2 r t' g1 g2 ?_
   rcases g3 with g3 | ⟨g3, g4⟩
   ·exact .inl g3
   ·subst g3
    exact .inr ⟨rfl, by have : t ≠ t' := fun h => he (by rw [h]); omega⟩
theorem p_t2 {p : List Nd} {K : List (List Int)} {l : List Int} {tb : List (List Bool)} (hp : p.length ≤ 1000) (hset : ∀ u ∈ p, u.2.length ≤ 1000 ∧ u.2.length % 2 = 0) (hl : l.length ≤ 1000) (hK : Kids p K p.length) {c : Nat} (hk : c < p.length) (htb : TfV l (trs p K) c tb) : ∀ (q k : Nat) (fl : List Bool), q ≤ l.length + 1 → q < k → FlatV l (getT (trs p K) (c : Int)) q (l.length + 1) fl → ∃ fl', z1f.l2 p l tb (c : Int) p[c] k fl ((q : Int) - 1) = some fl' ∧ FlatA l (getT (trs p K) (c : Int)) fl' := by
 intro q
 induction q with
 | zero =>
  intro k fl h1 hk2 hV
  obtain ⟨k, rfl⟩ := Nat.exists_eq_succ_of_ne_zero (show k ≠ 0 by omega)
  rw [z1f.l2, if_neg (by decide)]
  exact ⟨fl, rfl, hV.all⟩
 | succ q ih =>
  intro k fl h1 hk2 hV
  obtain ⟨k, rfl⟩ := Nat.exists_eq_succ_of_ne_zero (show k ≠ 0 by omega)
  rw [show ((q + 1 : Nat) : Int) - 1 = (q : Int) by omega, z1f.l2, if_pos (by simp), y03 l.length (by omega)]
  obtain ⟨fl', e1, e2⟩ := p_t3 hp hset hl hK hk htb (f := q) (by omega) (l.length + 1 - q) q ((((l.length + 1 : Nat) : Int) - (q : Int)).toNat + 2) fl (Nat.le_refl _) (by omega) (by omega) (hV.last q rfl)
  rw [e1]
  simp only [Option.bind_some]
  rw [yv (by omega) (by omega)]
  exact ih k fl' (by omega) (by omega) e2
theorem p_t1 {p : List Nd} {K : List (List Int)} {l : List Int} (hp : p.length ≤ 1000) (hset : ∀ u ∈ p, u.2.length ≤ 1000 ∧ u.2.length % 2 = 0) (hl : l.length ≤ 1000) (hK : Kids p K p.length) : ∀ (m k : Nat) (tb : List (List Bool)), tb.length + m = p.length → m < k → TfV l (trs p K) tb.length tb → ∃ tb', z1f.l1 p l k tb (tb.length : Int) = some tb' ∧ tb'.length = p.length ∧ TfV l (trs p K) p.length tb' := by
 intro m
 induction m with
 | zero =>
  intro k tb h1 hk htb
  obtain ⟨k, rfl⟩ := Nat.exists_eq_succ_of_ne_zero (show k ≠ 0 by omega)
  rw [z1f.l1, if_neg (by simp; omega)]
  exact ⟨tb, rfl, by omega, by rw [← show tb.length = p.length by omega]; exact htb⟩
 | succ m ih =>
  intro k tb h1 hk htb
  obtain ⟨k, rfl⟩ := Nat.exists_eq_succ_of_ne_zero (show k ≠ 0 by omega)
  have hc : tb.length < p.length := by omega
  have hw : IntKind.i64.wrap (((l.length + 1 : Nat) : Int) * ((l.length + 1 : Nat) : Int)) = (((l.length + 1) * (l.length + 1) : Nat) : Int) := by
   have : (l.length + 1) * (l.length + 1) ≤ 1001 * 1001 := Nat.mul_le_mul (by omega) (by omega)
   rw [← Int.natCast_mul]
   exact yv (by omega) (by omega)
  have hb : (l.length + 1) * (l.length + 1) ≤ 1001 * 1001 := Nat.mul_le_mul (by omega) (by omega)
  rw [z1f.l1, if_pos (by simp; omega), rd?_at hc]
  simp only [Option.bind_some]
  rw [y03 l.length (by omega), hw, mk?_at (by omega)]
  simp only [Option.bind_some]
  rw [yv (n := ((l.length + 1 : Nat) : Int) - 1) (by omega) (by omega)]
  obtain ⟨fl', e1, e2⟩ := p_t2 hp hset hl hK hc htb (l.length + 1) ((((l.length + 1 : Nat) : Int) - 1 - 0).toNat + 2) (List.replicate ((l.length + 1) * (l.length + 1)) false) (Nat.le_refl _) (by omega) ⟨by simp, fun f t h1 h2 h3 => by omega⟩
  rw [e1]
  simp only [Option.bind_some]
  rw [app?_at (by simp; omega)]
  simp only [Option.bind_some]
  rw [y03 tb.length (by omega)]
  have := ih k (tb ++ [fl']) (by simp; omega) (by omega) (by
   rw [List.length_append, List.length_singleton]
   intro c hct'
   by_cases hct : c < tb.length
   ·obtain ⟨fl, g1, g2⟩ := htb c hct
    exact ⟨fl, by rw [List.getElem?_append_left hct]; exact g1, g2⟩
   ·obtain rfl : c = tb.length := by omega
    exact ⟨fl', by rw [List.getElem?_append_right (Nat.le_refl _)]; simp, e2⟩)
  rw [List.length_append, List.length_singleton] at this
  exact this
theorem p_table {p : List Nd} {K : List (List Int)} {l : List Int} (hp : p.length ≤ 1000) (hset : ∀ u ∈ p, u.2.length ≤ 1000 ∧ u.2.length % 2 = 0) (hl : l.length ≤ 1000) (hK : Kids p K p.length) : ∃ tb, z1f.f p l = some tb ∧ tb.length = p.length ∧ TfV l (trs p K) p.length tb := by
 obtain ⟨tb, e1, e2, e3⟩ := p_t1 hp hset hl hK p.length (((p.length : Int) - 0).toNat + 2) [] (by simp) (by omega) (fun c hc => by simp at hc)
 refine ⟨tb, ?_, e2, e3⟩
 unfold z1f.f
 rw [show (([] : List (List Bool)).length : Int) = 0 from rfl] at e1
 rw [e1]
 rfl
section
variable {p : List Nd} {K : List (List Int)} {l : List Int} {tb : List (List (List Bool))} {ts : List (List Bool)}
theorem TbV.has {c f t : Nat} (h : TbV l (trs p K) p.length tb) (hc : c < p.length) (hf : f ≤ t) (ht : t ≤ l.length) : z17.f p K l tb (c : Int) (f : Int) (t : Int) = some (tA p K l c f t) := by
 obtain ⟨rows, h1, h2⟩ := h c hc
 exact h2.has h1 hf ht
theorem TfV.at {c f t : Nat} (h : TfV l (trs p K) p.length ts) (hc : c < p.length) (hl : l.length ≤ 1000) (hf : f ≤ t) (ht : t ≤ l.length) : ∃ fl, rd? ts (c : Int) = some fl ∧ rd? fl (IntKind.i64.wrap ((IntKind.i64.wrap ((f : Int) * (IntKind.i64.wrap ((l.length : Int) + 1)))) + (t : Int))) = some (tA p K l c f t) := by
 obtain ⟨fl, h1, h2⟩ := h c hc
 exact ⟨fl, rd?_get' h1, h2.rd hl hf ht⟩
theorem down_wrap {n : Nat} (h : n ≤ 1000000) : IntKind.i64.wrap (((n + 1 : Nat) : Int) - 1) = (n : Int) := by rw [yv (by omega) (by omega)]; omega
theorem p_catI {ks : List Int} {a b f t : Nat} (h : TbV l (trs p K) p.length tb) (h0 : rd? ks 0 = some (a : Int)) (h1 : rd? ks 1 = some (b : Int)) (ha : a < p.length) (hb : b < p.length) (hl : l.length ≤ 1000) (ht : t ≤ l.length) : ∀ (n k : Nat), f + n ≤ t → n < k → (∃ i, i ≤ n ∧ (tA p K l a f (f + i) && tA p K l b (f + i) t) = true) →
  z1a.l1 p K l tb f t ks k ((f + n : Nat) : Int) = some ((topF (fun m => tA p K l a f m && tA p K l b m t) f n : Nat) : Int) := by
 intro n
 induction n with
 | zero =>
  intro k hn hk ⟨i, hi, hh⟩
  obtain rfl : i = 0 := by omega
  obtain ⟨k, rfl⟩ := Nat.exists_eq_succ_of_ne_zero (show k ≠ 0 by omega)
  simp only [Nat.add_zero, Bool.and_eq_true] at hh
  rw [z1a.l1, h0, h1]
  simp only [Option.bind_some, Nat.add_zero, h.has ha (Nat.le_refl f) (by omega), h.has hb (show f ≤ t by omega) ht, hh.1, hh.2]
  rfl
 | succ n ih =>
  intro k hn hk hh
  obtain ⟨k, rfl⟩ := Nat.exists_eq_succ_of_ne_zero (show k ≠ 0 by omega)
  rw [z1a.l1, h0, h1]
  simp only [Option.bind_some, h.has ha (show f ≤ f + (n + 1) by omega) (by omega), h.has hb (show f + (n + 1) ≤ t by omega) ht]
  have e : (if (!tA p K l a f (f + (n + 1))) = true then some true else some (!tA p K l b (f + (n + 1)) t)) = some (!(tA p K l a f (f + (n + 1)) && tA p K l b (f + (n + 1)) t)) := by cases tA p K l a f (f + (n + 1)) <;> rfl
  rw [e]
  unfold topF
  simp only [Option.bind_some]
  by_cases hc : (tA p K l a f (f + (n + 1)) && tA p K l b (f + (n + 1)) t) = true
  ·rw [if_pos hc, hc]
   rfl
  ·have hc' : (tA p K l a f (f + (n + 1)) && tA p K l b (f + (n + 1)) t) = false := by simpa using hc
   rw [if_neg hc, hc', if_pos (show (!false) = true from rfl), show f + (n + 1) = f + n + 1 by omega, down_wrap (by omega)]
   obtain ⟨i, hi, hi2⟩ := hh
   refine ih k (by omega) (by omega) ⟨i, ?_, hi2⟩
   rcases Nat.lt_or_ge i (n + 1) with h | h
   ·omega
   ·obtain rfl : i = n + 1 := by omega
    exact absurd hi2 hc
theorem p_starI1 {ks : List Int} {a c f t : Nat} (h : TbV l (trs p K) p.length tb) (h0 : rd? ks 0 = some (a : Int)) (ha : a < p.length) (hb : c < p.length) (hl : l.length ≤ 1000) (ht : t ≤ l.length) : ∀ (n k : Nat), f + n ≤ t → n < k → (∃ i, i ≤ n ∧ (tA p K l a f (f + i) && tA p K l c (f + i) t) = true) →
  z1a.l3 p K l tb c t ks f k ((f + n : Nat) : Int) = some ((topF (fun m => tA p K l a f m && tA p K l c m t) f n : Nat) : Int) := by
 intro n
 induction n with
 | zero =>
  intro k hn hk ⟨i, hi, hh⟩
  obtain rfl : i = 0 := by omega
  obtain ⟨k, rfl⟩ := Nat.exists_eq_succ_of_ne_zero (show k ≠ 0 by omega)
  simp only [Nat.add_zero, Bool.and_eq_true] at hh
  rw [z1a.l3, h0]
  simp only [Option.bind_some, Nat.add_zero, h.has ha (Nat.le_refl f) (by omega), h.has hb (show f ≤ t by omega) ht, hh.1, hh.2]
  rfl
 | succ n ih =>
  intro k hn hk hh
  obtain ⟨k, rfl⟩ := Nat.exists_eq_succ_of_ne_zero (show k ≠ 0 by omega)
  rw [z1a.l3, h0]
  simp only [Option.bind_some, h.has ha (show f ≤ f + (n + 1) by omega) (by omega), h.has hb (show f + (n + 1) ≤ t by omega) ht]
  have e : (if (!tA p K l a f (f + (n + 1))) = true then some true else some (!tA p K l c (f + (n + 1)) t)) = some (!(tA p K l a f (f + (n + 1)) && tA p K l c (f + (n + 1)) t)) := by cases tA p K l a f (f + (n + 1)) <;> rfl
  rw [e]
  unfold topF
  simp only [Option.bind_some]
  by_cases hc : (tA p K l a f (f + (n + 1)) && tA p K l c (f + (n + 1)) t) = true
  ·rw [if_pos hc, hc]
   rfl
  ·have hc' : (tA p K l a f (f + (n + 1)) && tA p K l c (f + (n + 1)) t) = false := by simpa using hc
   rw [if_neg hc, hc', if_pos (show (!false) = true from rfl), show f + (n + 1) = f + n + 1 by omega, down_wrap (by omega)]
   obtain ⟨i, hi, hi2⟩ := hh
   refine ih k (by omega) (by omega) ⟨i, ?_, hi2⟩
   rcases Nat.lt_or_ge i (n + 1) with h | h
   ·omega
   ·obtain rfl : i = n + 1 := by omega
    exact absurd hi2 hc
/-- The step that a repetition takes. -/
theorem star_step {k a f t : Nat} (hT : getT (trs p K) (k : Int) = .star (getT (trs p K) (a : Int))) (hft : f < t) (ht : t ≤ l.length) (h : tA p K l k f t = true) :
  f < topF (fun m => tA p K l a f m && tA p K l k m t) f (t - f) ∧ topF (fun m => tA p K l a f m && tA p K l k m t) f (t - f) ≤ t ∧ tA p K l a f (topF (fun m => tA p K l a f m && tA p K l k m t) f (t - f)) = true ∧ tA p K l k (topF (fun m => tA p K l a f m && tA p K l k m t) f (t - f)) t = true := by
 obtain ⟨i, h1, h2, h3⟩ := star_on hT hft ht h
 have b1 := topF_bd (fun m => tA p K l a f m && tA p K l k m t) f (t - f)
 have b2 := topF_ge (g := fun m => tA p K l a f m && tA p K l k m t) (f := f) h1 h3
 have b3 := topF_ok (g := fun m => tA p K l a f m && tA p K l k m t) (f := f) ⟨i, h1, h3⟩
 simp only [Bool.and_eq_true] at b3
 exact ⟨by omega, by omega, b3.1, b3.2⟩
theorem starL_len {P : Nat → Nat → List Sp} {k a t sz : Nat} (hT : getT (trs p K) (k : Int) = .star (getT (trs p K) (a : Int))) (ht : t ≤ l.length) (hP : ∀ f t, f ≤ t → t ≤ l.length → tA p K l a f t = true → (P f t).length ≤ sz * max 1 (t - f)) : ∀ (n f : Nat), f ≤ t → tA p K l k f t = true →
  (starL P (fun f m => tA p K l a f m && tA p K l k m t) n f t).length ≤ sz * (t - f) := by
 intro n
 induction n with
 | zero => intro f _ _; simp [starL]
 | succ n ih =>
  intro f hf h
  unfold starL
  split
  ·rename_i hft
   obtain ⟨s1, s2, s3, s4⟩ := star_step hT hft ht h
   have h1 := ih _ s2 s4
   have h2 := hP f _ (by omega) (by omega) s3
   rw [List.length_append]
   generalize topF (fun m => tA p K l a f m && tA p K l k m t) f (t - f) = m at s1 s2 h1 h2 ⊢
   rw [Nat.max_eq_right (by omega)] at h2
   have : sz * (t - f) = sz * (m - f) + sz * (t - m) := by rw [← Nat.mul_add]; congr 1; omega
   omega
  ·simp
theorem p_starI {self : List Nd → List (List Int) → List Int → List (List (List Bool)) → List Sp → Int → Int → Int → Option (List Sp)} {ks : List Int} {P : Nat → Nat → List Sp} {a c t sz : Nat} (hT : getT (trs p K) (c : Int) = .star (getT (trs p K) (a : Int))) (h : TbV l (trs p K) p.length tb) (h0 : rd? ks 0 = some (a : Int)) (ha : a < p.length) (hb : c < p.length) (hl : l.length ≤ 1000) (ht : t ≤ l.length)
  (hP : ∀ f t, f ≤ t → t ≤ l.length → tA p K l a f t = true → (P f t).length ≤ sz * max 1 (t - f)) (hS : ∀ f t out, f ≤ t → t ≤ l.length → tA p K l a f t = true → out.length + sz * max 1 (t - f) ≤ 1000000 → self p K l tb out (a : Int) f t = some (out ++ P f t)) : ∀ (n f k : Nat) (out : List Sp), f ≤ t → t - f ≤ n → n < k → tA p K l c f t = true → out.length + sz * (t - f) ≤ 1000000 →
  z1a.l2 p K l tb c t self ks k out f = some (out ++ starL P (fun f m => tA p K l a f m && tA p K l c m t) n f t) := by
 intro n
 induction n with
 | zero =>
  intro f k out hf hn hk _ _
  obtain ⟨k, rfl⟩ := Nat.exists_eq_succ_of_ne_zero (show k ≠ 0 by omega)
  rw [z1a.l2, if_neg (by simp; omega)]
  simp [starL]
 | succ n ih =>
  intro f k out hf hn hk hA ho
  obtain ⟨k, rfl⟩ := Nat.exists_eq_succ_of_ne_zero (show k ≠ 0 by omega)
  unfold starL
  by_cases hft : f < t
  ·obtain ⟨i, i1, i2, i3⟩ := star_on hT hft ht hA
   obtain ⟨s1, s2, s3, s4⟩ := star_step hT hft ht hA
   have e1 := p_starI1 h h0 ha hb hl ht (t - f) (t + 2) (by omega) (by omega) ⟨i, i1, i3⟩
   rw [show f + (t - f) = t by omega] at e1
   have p1 := hP f _ (by omega) (by omega) s3
   rw [z1a.l2, if_pos (by simpa using hft), if_pos hft, show ((t : Int)).toNat = t by omega, e1]
   generalize topF (fun m => tA p K l a f m && tA p K l c m t) f (t - f) = m at s1 s2 s3 s4 p1 ⊢
   rw [Nat.max_eq_right (show 1 ≤ m - f by omega)] at p1
   have hsz : sz * (t - f) = sz * (m - f) + sz * (t - m) := by rw [← Nat.mul_add]; congr 1; omega
   simp only [Option.bind_some]
   rw [h0]
   simp only [Option.bind_some]
   rw [hS f m out (by omega) (by omega) s3 (by rw [Nat.max_eq_right (by omega)]; omega)]
   simp only [Option.bind_some]
   rw [ih m k _ (by omega) (by omega) (by omega) s4 (by rw [List.length_append]; omega), List.append_assoc]
  ·rw [z1a.l2, if_neg (by simpa using hft), if_neg hft]
   simp
/-! the other side -/
theorem p_starS1 {a c f t : Nat} (h : TfV l (trs p K) p.length ts) (hw : IntKind.i64.wrap ((c : Int) - 1) = (a : Int)) (ha : a < p.length) (hb : c < p.length) (hl : l.length ≤ 1000) (ht : t ≤ l.length) : ∀ (n k : Nat), f + n ≤ t → n < k → (∃ i, i ≤ n ∧ (tA p K l a f (f + i) && tA p K l c (f + i) t) = true) →
  z1h.l3 ts (IntKind.i64.wrap ((l.length : Int) + 1)) c t f k ((f + n : Nat) : Int) = some ((topF (fun m => tA p K l a f m && tA p K l c m t) f n : Nat) : Int) := by
 intro n
 induction n with
 | zero =>
  intro k hn hk ⟨i, hi, hh⟩
  obtain rfl : i = 0 := by omega
  obtain ⟨k, rfl⟩ := Nat.exists_eq_succ_of_ne_zero (show k ≠ 0 by omega)
  simp only [Nat.add_zero, Bool.and_eq_true] at hh
  obtain ⟨f1, x1, x2⟩ := h.at ha hl (Nat.le_refl f) (show f ≤ l.length by omega)
  obtain ⟨f2, y1, y2⟩ := h.at hb hl (show f ≤ t by omega) ht
  rw [z1h.l3, hw, x1, y1]
  simp only [Option.bind_some, Nat.add_zero, x2, y2, hh.1, hh.2]
  rfl
 | succ n ih =>
  intro k hn hk hh
  obtain ⟨k, rfl⟩ := Nat.exists_eq_succ_of_ne_zero (show k ≠ 0 by omega)
  obtain ⟨f1, x1, x2⟩ := h.at ha hl (show f ≤ f + (n + 1) by omega) (show f + (n + 1) ≤ l.length by omega)
  obtain ⟨f2, y1, y2⟩ := h.at hb hl (show f + (n + 1) ≤ t by omega) ht
  rw [z1h.l3, hw, x1, y1]
  simp only [Option.bind_some, x2, y2]
  have e : (if (!tA p K l a f (f + (n + 1))) = true then some true else some (!tA p K l c (f + (n + 1)) t)) = some (!(tA p K l a f (f + (n + 1)) && tA p K l c (f + (n + 1)) t)) := by cases tA p K l a f (f + (n + 1)) <;> rfl
  rw [e]
  unfold topF
  simp only [Option.bind_some]
  by_cases hc : (tA p K l a f (f + (n + 1)) && tA p K l c (f + (n + 1)) t) = true
  ·rw [if_pos hc, hc]
   rfl
  ·have hc' : (tA p K l a f (f + (n + 1)) && tA p K l c (f + (n + 1)) t) = false := by simpa using hc
   rw [if_neg hc, hc', if_pos (show (!false) = true from rfl), show f + (n + 1) = f + n + 1 by omega, down_wrap (by omega)]
   obtain ⟨i, hi, hi2⟩ := hh
   refine ih k (by omega) (by omega) ⟨i, ?_, hi2⟩
   rcases Nat.lt_or_ge i (n + 1) with h | h
   ·omega
   ·obtain rfl : i = n + 1 := by omega
    exact absurd hi2 hc
theorem p_starS {self : List Nd → List (List Bool) → Int → Int → Int → Int → Option (List Sp)} {P : Nat → Nat → List Sp} {a c t sz : Nat} (hT : getT (trs p K) (c : Int) = .star (getT (trs p K) (a : Int))) (h : TfV l (trs p K) p.length ts) (hw : IntKind.i64.wrap ((c : Int) - 1) = (a : Int)) (ha : a < p.length) (hb : c < p.length) (hl : l.length ≤ 1000) (ht : t ≤ l.length)
  (hP : ∀ f t, f ≤ t → t ≤ l.length → tA p K l a f t = true → (P f t).length ≤ sz * max 1 (t - f)) (hS : ∀ f t, f ≤ t → t ≤ l.length → tA p K l a f t = true → self p ts (IntKind.i64.wrap ((l.length : Int) + 1)) (a : Int) f t = some (P f t)) : ∀ (n f k : Nat) (out : List Sp), f ≤ t → t - f ≤ n → n < k → tA p K l c f t = true → out.length + sz * (t - f) ≤ 1000000 →
  z1h.l2 p ts (IntKind.i64.wrap ((l.length : Int) + 1)) c t self k out f = some (out ++ starL P (fun f m => tA p K l a f m && tA p K l c m t) n f t) := by
 intro n
 induction n with
 | zero =>
  intro f k out hf hn hk _ _
  obtain ⟨k, rfl⟩ := Nat.exists_eq_succ_of_ne_zero (show k ≠ 0 by omega)
  rw [z1h.l2, if_neg (by simp; omega)]
  simp [starL]
 | succ n ih =>
  intro f k out hf hn hk hA ho
  obtain ⟨k, rfl⟩ := Nat.exists_eq_succ_of_ne_zero (show k ≠ 0 by omega)
  unfold starL
  by_cases hft : f < t
  ·obtain ⟨i, i1, i2, i3⟩ := star_on hT hft ht hA
   obtain ⟨s1, s2, s3, s4⟩ := star_step hT hft ht hA
   have e1 := p_starS1 h hw ha hb hl ht (t - f) (t + 2) (by omega) (by omega) ⟨i, i1, i3⟩
   rw [show f + (t - f) = t by omega] at e1
   have p1 := hP f _ (by omega) (by omega) s3
   rw [z1h.l2, if_pos (by simpa using hft), if_pos hft, show ((t : Int)).toNat = t by omega, e1]
   generalize topF (fun m => tA p K l a f m && tA p K l c m t) f (t - f) = m at s1 s2 s3 s4 p1 ⊢
   rw [Nat.max_eq_right (show 1 ≤ m - f by omega)] at p1
   have hsz : sz * (t - f) = sz * (m - f) + sz * (t - m) := by rw [← Nat.mul_add]; congr 1; omega
   simp only [Option.bind_some]
   rw [hw, hS f m (by omega) (by omega) s3]
   simp only [Option.bind_some]
   rw [app?_at (by omega)]
   simp only [Option.bind_some]
   rw [ih m k _ (by omega) (by omega) (by omega) s4 (by rw [List.length_append]; omega), List.append_assoc]
  ·rw [z1h.l2, if_neg (by simpa using hft), if_neg hft]
   simp
theorem p_catS {self : List Nd → List (List Bool) → Int → Int → Int → Int → Option (List Sp)} {A B : Nat → Nat → List Sp} {a b c f t sa sb : Nat} (h : TfV l (trs p K) p.length ts) (hw : IntKind.i64.wrap ((c : Int) - 1) = (b : Int)) (ha : a < p.length) (hb : b < p.length) (hl : l.length ≤ 1000) (ht : t ≤ l.length)
  (hA : ∀ f t, f ≤ t → t ≤ l.length → tA p K l a f t = true → (A f t).length ≤ sa ∧ self p ts (IntKind.i64.wrap ((l.length : Int) + 1)) (a : Int) f t = some (A f t))
  (hB : ∀ f t, f ≤ t → t ≤ l.length → tA p K l b f t = true → (B f t).length ≤ sb ∧ self p ts (IntKind.i64.wrap ((l.length : Int) + 1)) (b : Int) f t = some (B f t)) (hs : sa + sb ≤ 1000000) : ∀ (n k : Nat), f + n ≤ t → n < k → (∃ i, i ≤ n ∧ (tA p K l a f (f + i) && tA p K l b (f + i) t) = true) →
  z1h.l1 p ts (IntKind.i64.wrap ((l.length : Int) + 1)) c f t self a k ((f + n : Nat) : Int) = some (.ret (.ret (((c : Int), (f : Int), (t : Int)) :: (A f (topF (fun m => tA p K l a f m && tA p K l b m t) f n) ++ B (topF (fun m => tA p K l a f m && tA p K l b m t) f n) t)))) := by
 have done : ∀ (m k : Nat), f ≤ m → m ≤ t → tA p K l a f m = true → tA p K l b m t = true → z1h.l1 p ts (IntKind.i64.wrap ((l.length : Int) + 1)) c f t self a (k + 1) (m : Int) = some (.ret (.ret (((c : Int), (f : Int), (t : Int)) :: (A f m ++ B m t)))) := by
  intro m k h1 h2 h3 h4
  obtain ⟨f1, x1, x2⟩ := h.at ha hl h1 (show m ≤ l.length by omega)
  obtain ⟨f2, y1, y2⟩ := h.at hb hl h2 ht
  obtain ⟨a1, a2⟩ := hA f m h1 (by omega) h3
  obtain ⟨b1, b2⟩ := hB m t h2 ht h4
  rw [z1h.l1, if_pos (by simp; omega), x1, hw, y1]
  simp only [Option.bind_some, x2, y2, h3, h4, if_true, a2, b2]
  rw [app?_at (by simp; omega)]
  simp only [Option.bind_some]
  rw [app?_at (by simp; omega)]
  rfl
 intro n
 induction n with
 | zero =>
  intro k hn hk ⟨i, hi, hh⟩
  obtain rfl : i = 0 := by omega
  obtain ⟨k, rfl⟩ := Nat.exists_eq_succ_of_ne_zero (show k ≠ 0 by omega)
  simp only [Nat.add_zero, Bool.and_eq_true] at hh
  exact done f k (Nat.le_refl _) (by omega) hh.1 hh.2
 | succ n ih =>
  intro k hn hk hh
  obtain ⟨k, rfl⟩ := Nat.exists_eq_succ_of_ne_zero (show k ≠ 0 by omega)
  unfold topF
  by_cases hc : (tA p K l a f (f + (n + 1)) && tA p K l b (f + (n + 1)) t) = true
  ·rw [if_pos hc]
   simp only [Bool.and_eq_true] at hc
   exact done _ k (by omega) (by omega) hc.1 hc.2
  ·rw [if_neg hc]
   have hc' : (tA p K l a f (f + (n + 1)) && tA p K l b (f + (n + 1)) t) = false := by simpa using hc
   obtain ⟨f1, x1, x2⟩ := h.at ha hl (show f ≤ f + (n + 1) by omega) (show f + (n + 1) ≤ l.length by omega)
   obtain ⟨f2, y1, y2⟩ := h.at hb hl (show f + (n + 1) ≤ t by omega) ht
   rw [z1h.l1, if_pos (by simp; omega), x1, hw, y1]
   simp only [Option.bind_some, x2, y2]
   have e : (if tA p K l a f (f + (n + 1)) = true then some (tA p K l b (f + (n + 1)) t) else some false) = some (tA p K l a f (f + (n + 1)) && tA p K l b (f + (n + 1)) t) := by cases tA p K l a f (f + (n + 1)) <;> rfl
   rw [e, hc']
   simp only [Option.bind_some, Bool.false_eq_true, if_false]
   rw [show f + (n + 1) = f + n + 1 by omega, down_wrap (by omega)]
   obtain ⟨i, hi, hi2⟩ := hh
   refine ih k (by omega) (by omega) ⟨i, ?_, hi2⟩
   rcases Nat.lt_or_ge i (n + 1) with h | h
   ·omega
   ·obtain rfl : i = n + 1 := by omega
    exact absurd hi2 hc
end
theorem prs_eq {p : List Nd} {K : List (List Int)} {l : List Int} {n k f t : Nat} (hk : k < p.length) : prs p K l (n + 1) k f t = ((k : Int), (f : Int), (t : Int)) ::
  (if p[k].1 = 4 then (if tA p K l (kid K k 0) f t = true then prs p K l n (kid K k 0) f t else prs p K l n (kid K k 1) f t)
  else if p[k].1 = 3 then
   prs p K l n (kid K k 0) f (topF (fun m => tA p K l (kid K k 0) f m && tA p K l (kid K k 1) m t) f (t - f)) ++ prs p K l n (kid K k 1) (topF (fun m => tA p K l (kid K k 0) f m && tA p K l (kid K k 1) m t) f (t - f)) t
  else if p[k].1 = 6 then starL (prs p K l n (kid K k 0)) (fun f m => tA p K l (kid K k 0) f m && tA p K l k m t) (t - f) f t
  else []) := by
 have hop : ((p[k]?).map (·.1)).getD 0 = p[k].1 := by rw [List.getElem?_eq_getElem hk]; rfl
 conv => lhs; unfold prs
 rw [hop]
abbrev PO (p : List Nd) (K : List (List Int)) (l : List Int) (tb : List (List (List Bool))) (ts : List (List Bool)) (k kr sz : Nat) : Prop := PrsOk p K l (fun kr out k f t => z1a.r kr p K l tb out k f t) (fun kr k f t => z1h.r kr p ts (IntKind.i64.wrap ((l.length : Int) + 1)) k f t) k kr sz
theorem prs_ok {p : List Nd} {K : List (List Int)} {l : List Int} {tb : List (List (List Bool))} {ts : List (List Bool)} (hp : p.length ≤ 100) (hl : l.length ≤ 100) (hK : Kids p K p.length) (hpl : ∀ u ∈ p, u.1 ≠ 5 ∧ u.1 ≠ 7) (htb : TbV l (trs p K) p.length tb) (hts : TfV l (trs p K) p.length ts) : ∀ (k : Nat), k < p.length → ∃ s : Int, Scan p k s ∧ ∀ kr, k < kr → PO p K l tb ts k kr ((k : Int) - s + 1).toNat := by
 intro k
 induction k using Nat.strongRecOn with
 | ind k ih =>
 intro hk
 obtain ⟨ks, hks, k0, k1, k2, k3⟩ := hK.2 k hk hk
 have hne := hpl _ (List.getElem_mem hk)
 have rk : rd? K (k : Int) = some ks := rd?_get' hks
 have rp : rd? p (k : Int) = some p[k] := rd?_at hk
 have hw : 1 ≤ k → IntKind.i64.wrap ((k : Int) - 1) = ((k - 1 : Nat) : Int) := fun h => by rw [yv (by omega) (by omega)]; omega
 have leaf : ar p[k].1 = 0 → p[k].1 ≠ 4 → p[k].1 ≠ 3 → p[k].1 ≠ 6 → ∃ s : Int, Scan p k s ∧ ∀ kr, k < kr → PO p K l tb ts k kr ((k : Int) - s + 1).toNat := fun h0 h4 h3 h6 => by
  have b4 : (p[k].1 == 4) = false := by simpa using h4
  have b3 : (p[k].1 == 3) = false := by simpa using h3
  have b6 : (p[k].1 == 6) = false := by simpa using h6
  refine ⟨k, Scan.leaf (by omega) k hk h0, fun kr hkr => ?_⟩
  obtain ⟨n, rfl⟩ := Nat.exists_eq_succ_of_ne_zero (show kr ≠ 0 by omega)
  rw [show ((k : Int) - k + 1).toNat = 1 by omega]
  refine ⟨fun f t _ _ _ => ?_, fun f t out _ _ _ ho => ?_, fun f t _ _ _ => ?_⟩
  ·rw [prs_eq hk, if_neg h4, if_neg h3, if_neg h6]
   simp
   omega
  ·rw [prs_eq hk, if_neg h4, if_neg h3, if_neg h6]
   show z1a.r (n + 1) p K l tb out k f t = _
   rw [z1a.r, z1a.b, app?_at (by simp; omega)]
   simp only [Option.bind_some, rk, rp, b4, b3, b6, Bool.false_eq_true, if_false]
  ·rw [prs_eq hk, if_neg h4, if_neg h3, if_neg h6]
   show z1h.r (n + 1) p ts _ k f t = _
   rw [z1h.r, z1h.b]
   simp only [Option.bind_some, rp, b4, b3, b6, Bool.false_eq_true, if_false]
 have two : ar p[k].1 = 2 → ∃ (g : Nat) (s1 s : Int), 1 ≤ k ∧ g + 1 < k ∧ ks = [(g : Int), ((k - 1 : Nat) : Int)] ∧ kid K k 0 = g ∧ kid K k 1 = k - 1 ∧ z1d.f p (k : Int) = some (g : Int) ∧ Scan p k s ∧ Scan p ((k - 1 : Nat) : Int) s1 ∧ Scan p (g : Int) s ∧ (g : Int) = s1 - 1 ∧ (∀ kr, k - 1 < kr → PO p K l tb ts (k - 1) kr (((k - 1 : Nat) : Int) - s1 + 1).toNat) ∧ (∀ kr, g < kr → PO p K l tb ts g kr ((g : Int) - s + 1).toNat) := fun h2 => by
  obtain ⟨g, e1, g0, g1, g2⟩ := k2 h2
  obtain ⟨g, rfl⟩ := Int.eq_ofNat_of_zero_le g0
  have e2 : ((k : Int) - 1) = ((k - 1 : Nat) : Int) := by omega
  rw [e2] at e1
  obtain ⟨s1, h1, B⟩ := ih (k - 1) (by omega) (by omega)
  obtain ⟨s, h3, A⟩ := ih g (by omega) (by omega)
  have hs1 : Scan p ((k : Int) - 1) s1 := by rw [e2]; exact h1
  have hg := first_of (by omega) k hk hs1
  rw [g2] at hg
  have hg : (g : Int) = s1 - 1 := Option.some.inj hg
  refine ⟨g, s1, s, by omega, by omega, e1, ?_, ?_, g2, Scan.two (by omega) k hk h2 hs1 (by rw [← hg]; exact h3), h1, h3, hg, B, A⟩
  ·unfold kid; rw [hks, e1]; simp
  ·unfold kid; rw [hks, e1]; simp
 rcases ar_cases k3 with h | h | h | h | h | h | h
 ·exact leaf (by rw [h]; rfl) (by omega) (by omega) (by omega)
 ·exact leaf (by rw [h]; rfl) (by omega) (by omega) (by omega)
 ·-- one behind the other
  obtain ⟨g, s1, s, c1, c2, eks, q0, q1, hf1, S0, S1, S2, hg, B, A⟩ := two (by rw [h]; rfl)
  have hT : getT (trs p K) (k : Int) = .cat (getT (trs p K) (g : Int)) (getT (trs p K) ((k - 1 : Nat) : Int)) := by
   rw [trs_at hK hk hks (by rw [eks]; intro c hc; simp at hc; omega), eks]; unfold mkT; simp [h]
  have b4 : ((3 : Int) == 4) = false := by decide
  have b3 : ((3 : Int) == 3) = true := by decide
  have n4 : ¬ ((3 : Int) = 4) := by decide
  have r0 : rd? ks 0 = some (g : Int) := by rw [eks]; rfl
  have r1 : rd? ks 1 = some ((k - 1 : Nat) : Int) := by rw [eks]; rfl
  refine ⟨s, S0, fun kr hkr => ?_⟩
  obtain ⟨n, rfl⟩ := Nat.exists_eq_succ_of_ne_zero (show kr ≠ 0 by omega)
  have A := A n (by omega)
  have B := B n (by omega)
  have z1 := S1.2.1
  have z2 := S2.2.1
  have z3 := S2.1
  obtain ⟨a, ha⟩ : ∃ a, ((g : Int) - s + 1).toNat = a := ⟨_, rfl⟩
  obtain ⟨b, hb⟩ : ∃ b, (((k - 1 : Nat) : Int) - s1 + 1).toNat = b := ⟨_, rfl⟩
  rw [ha] at A
  rw [hb] at B
  rw [show ((k : Int) - s + 1).toNat = a + b + 1 by omega]
  have hab : a + b ≤ 100 := by omega
  -- the place where it is cut
  have cut : ∀ f t, f ≤ t → t ≤ l.length → tA p K l k f t = true → ∃ m, topF (fun m => tA p K l (kid K k 0) f m && tA p K l (kid K k 1) m t) f (t - f) = m ∧ f ≤ m ∧ m ≤ t ∧ tA p K l g f m = true ∧ tA p K l ((k - 1 : Nat) : Int) m t = true ∧ ∃ i, i ≤ t - f ∧ (tA p K l g f (f + i) && tA p K l ((k - 1 : Nat) : Int) (f + i) t) = true := fun f t hft ht hA => by
   obtain ⟨i, i1, i2⟩ := cat_on hT hft ht hA
   have t1 := topF_bd (fun m => tA p K l g f m && tA p K l ((k - 1 : Nat) : Int) m t) f (t - f)
   have t2 := topF_ok (g := fun m => tA p K l g f m && tA p K l ((k - 1 : Nat) : Int) m t) (f := f) ⟨i, i1, i2⟩
   simp only [Bool.and_eq_true] at t2
   rw [q0, q1]
   exact ⟨_, rfl, t1.1, by omega, t2.1, t2.2, i, i1, i2⟩
  have wl : ∀ f m t : Nat, f ≤ m → m ≤ t → a * max 1 (m - f) + b * max 1 (t - m) ≤ (a + b) * max 1 (t - f) := fun f m t h1 h2 => by
   have x1 : a * max 1 (m - f) ≤ a * max 1 (t - f) := Nat.mul_le_mul (Nat.le_refl _) (by omega)
   have x2 : b * max 1 (t - m) ≤ b * max 1 (t - f) := Nat.mul_le_mul (Nat.le_refl _) (by omega)
   rw [Nat.add_mul]; omega
  have w1 : ∀ f t : Nat, (a + b) * max 1 (t - f) + max 1 (t - f) = (a + b + 1) * max 1 (t - f) := fun f t => by rw [Nat.add_mul (a + b) 1, Nat.one_mul]
  refine ⟨fun f t hft ht hA => ?_, fun f t out hft ht hA ho => ?_, fun f t hft ht hA => ?_⟩
  ·obtain ⟨m, m0, m1, m2, m3, m4, _⟩ := cut f t hft ht hA
   rw [prs_eq hk, h, if_neg n4, if_pos rfl, m0, q0, q1, List.length_cons, List.length_append]
   have := A.len f m m1 (by omega) m3
   have := B.len m t m2 ht m4
   have := wl f m t m1 m2
   have := w1 f t
   omega
  ·obtain ⟨m, m0, m1, m2, m3, m4, i, i1, i2⟩ := cut f t hft ht hA
   have x1 := A.len f m m1 (by omega) m3
   have x2 := wl f m t m1 m2
   have x3 := w1 f t
   have e1 := p_catI htb r0 r1 (show g < p.length by omega) (show k - 1 < p.length by omega) (by omega) ht (t - f) (t + 2) (by omega) (by omega) ⟨i, i1, i2⟩
   rw [show f + (t - f) = t by omega] at e1
   have e2 := A.impl f m (out ++ [((k : Int), (f : Int), (t : Int))]) m1 (by omega) m3 (by simp; omega)
   have e3 := B.impl m t (out ++ [((k : Int), (f : Int), (t : Int))] ++ prs p K l n g f m) m2 ht m4 (by simp; omega)
   rw [prs_eq hk, h, if_neg n4, if_pos rfl, m0, q0, q1]
   rw [q0, q1] at m0
   show z1a.r (n + 1) p K l tb out k f t = _
   rw [z1a.r, z1a.b, app?_at (by simp; omega)]
   simp only [Option.bind_some, rk, rp, h, b4, b3, Bool.false_eq_true, if_false, if_true]
   rw [show ((t : Int)).toNat = t by omega, e1, m0]
   simp only [Option.bind_some, r0, r1, e2, e3]
   simp
  ·obtain ⟨m, m0, m1, m2, m3, m4, i, i1, i2⟩ := cut f t hft ht hA
   have bd : ∀ c f t : Nat, t ≤ l.length → c ≤ 100 → c * max 1 (t - f) ≤ 10000 := fun c f t h1 h2 => by
    have : c * max 1 (t - f) ≤ 100 * 100 := Nat.mul_le_mul h2 (by omega)
    omega
   have e1 := p_catS (self := z1h.r n) (A := prs p K l n g) (B := prs p K l n (k - 1)) (c := k) (f := f) (sa := 10000) (sb := 10000) hts (hw c1) (show g < p.length by omega) (show k - 1 < p.length by omega) (by omega) ht
    (fun f t u1 u2 u3 => ⟨Nat.le_trans (A.len f t u1 u2 u3) (bd a f t u2 (by omega)), A.spec f t u1 u2 u3⟩) (fun f t u1 u2 u3 => ⟨Nat.le_trans (B.len f t u1 u2 u3) (bd b f t u2 (by omega)), B.spec f t u1 u2 u3⟩) (by omega) (t - f) (((t : Int) - (f : Int)).toNat + 2) (by omega) (by omega) ⟨i, i1, i2⟩
   rw [show f + (t - f) = t by omega] at e1
   rw [prs_eq hk, h, if_neg n4, if_pos rfl, q0, q1]
   show z1h.r (n + 1) p ts _ k f t = _
   rw [z1h.r, z1h.b]
   simp only [Option.bind_some, rp, h, b4, b3, Bool.false_eq_true, if_false, if_true, hf1, e1]
 ·-- one or the other
  obtain ⟨g, s1, s, c1, c2, eks, q0, q1, hf1, S0, S1, S2, hg, B, A⟩ := two (by rw [h]; rfl)
  have hT : getT (trs p K) (k : Int) = .or (getT (trs p K) (g : Int)) (getT (trs p K) ((k - 1 : Nat) : Int)) := by
   rw [trs_at hK hk hks (by rw [eks]; intro c hc; simp at hc; omega), eks]; unfold mkT; simp [h]
  have b4 : ((4 : Int) == 4) = true := by decide
  have r0 : rd? ks 0 = some (g : Int) := by rw [eks]; rfl
  have r1 : rd? ks 1 = some ((k - 1 : Nat) : Int) := by rw [eks]; rfl
  refine ⟨s, S0, fun kr hkr => ?_⟩
  obtain ⟨n, rfl⟩ := Nat.exists_eq_succ_of_ne_zero (show kr ≠ 0 by omega)
  have A := A n (by omega)
  have B := B n (by omega)
  have z1 := S1.2.1
  have z2 := S2.2.1
  have z3 := S2.1
  obtain ⟨a, ha⟩ : ∃ a, ((g : Int) - s + 1).toNat = a := ⟨_, rfl⟩
  obtain ⟨b, hb⟩ : ∃ b, (((k - 1 : Nat) : Int) - s1 + 1).toNat = b := ⟨_, rfl⟩
  rw [ha] at A
  rw [hb] at B
  rw [show ((k : Int) - s + 1).toNat = a + b + 1 by omega]
  have hab : a + b ≤ 100 := by omega
  have other : ∀ f t, tA p K l k f t = true → tA p K l g f t = false → tA p K l ((k - 1 : Nat) : Int) f t = true := fun f t h1 h2 => by
   unfold tA at h1 h2 ⊢
   rw [hT] at h1
   have h1 : (acc _ _ || acc _ _) = true := h1
   rw [h2, Bool.false_or] at h1
   exact h1
  have wa : ∀ f t : Nat, a * max 1 (t - f) + max 1 (t - f) ≤ (a + b + 1) * max 1 (t - f) := fun f t => by
   rw [Nat.add_mul (a + b) 1, Nat.one_mul, Nat.add_mul]; omega
  have wb : ∀ f t : Nat, b * max 1 (t - f) + max 1 (t - f) ≤ (a + b + 1) * max 1 (t - f) := fun f t => by
   rw [Nat.add_mul (a + b) 1, Nat.one_mul, Nat.add_mul]; omega
  have bd : ∀ c f t : Nat, t ≤ l.length → c ≤ 100 → c * max 1 (t - f) ≤ 10000 := fun c f t h1 h2 => by
   have : c * max 1 (t - f) ≤ 100 * 100 := Nat.mul_le_mul h2 (by omega)
   omega
  refine ⟨fun f t hft ht hA => ?_, fun f t out hft ht hA ho => ?_, fun f t hft ht hA => ?_⟩
  ·have := wa f t
   have := wb f t
   rw [prs_eq hk, h, if_pos rfl, q0, q1, List.length_cons]
   split
   ·rename_i hg1
    have := A.len f t hft ht hg1
    omega
   ·rename_i hg1
    have := B.len f t hft ht (other f t hA (by simpa using hg1))
    omega
  ·have := wa f t
   have := wb f t
   rw [prs_eq hk, h, if_pos rfl, q0, q1]
   show z1a.r (n + 1) p K l tb out k f t = _
   rw [z1a.r, z1a.b, app?_at (by simp; omega)]
   simp only [Option.bind_some, rk, rp, h, b4, if_true, r0, r1, htb.has (show g < p.length by omega) hft ht]
   cases hg1 : tA p K l g f t with
   | true =>
    have e := A.impl f t (out ++ [((k : Int), (f : Int), (t : Int))]) hft ht hg1 (by simp; omega)
    simp [e]
   | false =>
    have e := B.impl f t (out ++ [((k : Int), (f : Int), (t : Int))]) hft ht (other f t hA hg1) (by simp; omega)
    simp [e]
  ·obtain ⟨fl, x1, x2⟩ := hts.at (show g < p.length by omega) (by omega) hft ht
   rw [prs_eq hk, h, if_pos rfl, q0, q1]
   show z1h.r (n + 1) p ts _ k f t = _
   rw [z1h.r, z1h.b]
   simp only [Option.bind_some, rp, h, b4, if_true, hf1, x1, x2]
   cases hg1 : tA p K l g f t with
   | true =>
    have e := A.spec f t hft ht hg1
    have e0 := A.len f t hft ht hg1
    have e1 := bd a f t ht (by omega)
    simp only [if_true, e, Option.bind_some]
    rw [app?_at (by simp; omega)]
    rfl
   | false =>
    have e := B.spec f t hft ht (other f t hA hg1)
    have e0 := B.len f t hft ht (other f t hA hg1)
    have e1 := bd b f t ht (by omega)
    simp only [Bool.false_eq_true, if_false, hw c1, e, Option.bind_some]
    rw [app?_at (by simp; omega)]
    rfl
 ·exact absurd h hne.1
 ·-- again and again
  obtain ⟨e1, g1⟩ := k1 (by rw [h]; rfl)
  have e2 : ((k : Int) - 1) = ((k - 1 : Nat) : Int) := by omega
  rw [e2] at e1
  have hT : getT (trs p K) (k : Int) = .star (getT (trs p K) ((k - 1 : Nat) : Int)) := by
   rw [trs_at hK hk hks (by rw [e1]; intro c hc; simp at hc; omega), e1]; unfold mkT; simp [h]
  have b4 : ((6 : Int) == 4) = false := by decide
  have b3 : ((6 : Int) == 3) = false := by decide
  have b6 : ((6 : Int) == 6) = true := by decide
  have n4 : ¬ ((6 : Int) = 4) := by decide
  have n3 : ¬ ((6 : Int) = 3) := by decide
  have r0 : rd? ks 0 = some ((k - 1 : Nat) : Int) := by rw [e1]; rfl
  have q0 : kid K k 0 = k - 1 := by unfold kid; rw [hks, e1]; simp
  obtain ⟨s, S1, A⟩ := ih (k - 1) (by omega) (by omega)
  have S0 : Scan p k s := Scan.one (by omega) k hk (by rw [h]; rfl) (by rw [e2]; exact S1)
  refine ⟨s, S0, fun kr hkr => ?_⟩
  obtain ⟨n, rfl⟩ := Nat.exists_eq_succ_of_ne_zero (show kr ≠ 0 by omega)
  have A := A n (by omega)
  have z1 := S1.2.1
  have z3 := S1.1
  obtain ⟨a, ha⟩ : ∃ a, (((k - 1 : Nat) : Int) - s + 1).toNat = a := ⟨_, rfl⟩
  rw [ha] at A
  rw [show ((k : Int) - s + 1).toNat = a + 1 by omega]
  have ha1 : a ≤ 100 := by omega
  have w1 : ∀ f t : Nat, a * (t - f) + 1 ≤ (a + 1) * max 1 (t - f) := fun f t => by
   have : a * (t - f) ≤ a * max 1 (t - f) := Nat.mul_le_mul (Nat.le_refl _) (by omega)
   rw [Nat.add_mul a 1, Nat.one_mul]; omega
  have bd : ∀ f t : Nat, t ≤ l.length → a * (t - f) ≤ 10000 := fun f t h1 => by
   have : a * (t - f) ≤ 100 * 100 := Nat.mul_le_mul ha1 (by omega)
   omega
  refine ⟨fun f t hft ht hA => ?_, fun f t out hft ht hA ho => ?_, fun f t hft ht hA => ?_⟩
  ·have := starL_len (P := prs p K l n (k - 1)) hT ht A.len (t - f) f hft hA
   have := w1 f t
   rw [prs_eq hk, h, if_neg n4, if_neg n3, if_pos rfl, q0, List.length_cons]
   omega
  ·have x1 := w1 f t
   have e := p_starI (self := z1a.r n) (P := prs p K l n (k - 1)) hT htb r0 (show k - 1 < p.length by omega) hk (by omega) ht A.len A.impl (t - f) f (t + 2) (out ++ [((k : Int), (f : Int), (t : Int))]) hft (Nat.le_refl _) (by omega) hA (by simp; omega)
   rw [prs_eq hk, h, if_neg n4, if_neg n3, if_pos rfl, q0]
   show z1a.r (n + 1) p K l tb out k f t = _
   rw [z1a.r, z1a.b, app?_at (by simp; omega)]
   simp only [Option.bind_some, rk, rp, h, b4, b3, b6, Bool.false_eq_true, if_false, if_true]
   rw [show ((t : Int)).toNat = t by omega, e]
   simp
  ·have x1 := bd f t ht
   have e := p_starS (self := z1h.r n) (P := prs p K l n (k - 1)) hT hts (hw g1) (show k - 1 < p.length by omega) hk (by omega) ht A.len A.spec (t - f) f (((t : Int) - (f : Int)).toNat + 2) [((k : Int), (f : Int), (t : Int))] hft (Nat.le_refl _) (by omega) hA (by simp; omega)
   rw [prs_eq hk, h, if_neg n4, if_neg n3, if_pos rfl, q0]
   show z1h.r (n + 1) p ts _ k f t = _
   rw [z1h.r, z1h.b]
   simp only [Option.bind_some, rp, h, b4, b3, b6, Bool.false_eq_true, if_false, if_true, e]
   simp
 ·exact absurd h hne.2
/-- A repetition's spans taken off. -/
def chkS (C : List Sp → Nat → Option (List Sp × Nat)) (t : Nat) : Nat → List Sp → Nat → Option (List Sp × Nat)
 | 0, _, _ => none
 | n + 1, s, f => if f < t then (C s f).bind fun o => if o.2 = f then none else chkS C t n o.1 o.2 else if f = t then some (s, t) else none
/-- The spans of a parse taken off: what is left, and where it ends. -/
def chk (p : List Nd) (K : List (List Int)) (l : List Int) : Nat → List Sp → Nat → Nat → Option (List Sp × Nat)
 | 0, _, _, _ => none
 | _ + 1, [], _, _ => none
 | n + 1, u :: rest, k, f =>
  if u.1 = (k : Int) ∧ u.2.1 = (f : Int) ∧ (f : Int) ≤ u.2.2 ∧ u.2.2 ≤ (l.length : Int) then
   if ((p[k]?).map (·.1)).getD 0 = 1 then (if f = u.2.2.toNat then some (rest, u.2.2.toNat) else none)
   else if ((p[k]?).map (·.1)).getD 0 = 2 then (if u.2.2.toNat = f + 1 ∧ inS (((p[k]?).map (·.2)).getD []) ((l[f]?).getD 0) = true then some (rest, u.2.2.toNat) else none)
   else if ((p[k]?).map (·.1)).getD 0 = 4 then (chk p K l n rest (if (rest.head?).map (·.1) = some ((kid K k 0 : Nat) : Int) then kid K k 0 else kid K k 1) f).bind fun o => if o.2 = u.2.2.toNat then some o else none
   else if ((p[k]?).map (·.1)).getD 0 = 3 then (chk p K l n rest (kid K k 0) f).bind fun o => (chk p K l n o.1 (kid K k 1) o.2).bind fun o' => if o'.2 = u.2.2.toNat then some o' else none
   else chkS (fun s f => chk p K l n s (kid K k 0) f) u.2.2.toNat (u.2.2.toNat - f + 1) rest f
  else none
theorem chkS_end {C : List Sp → Nat → Option (List Sp × Nat)} {t : Nat} {r : List Sp} {e : Nat} : ∀ {n : Nat} {s : List Sp} {f : Nat}, chkS C t n s f = some (r, e) → e = t
 | 0, s, f, h => by cases h
 | n + 1, s, f, h => by
  unfold chkS at h
  split at h
  ·cases hc : C s f with
   | none => rw [hc] at h; cases h
   | some o =>
    rw [hc] at h
    simp only [Option.bind_some] at h
    split at h
    ·cases h
    ·exact chkS_end h
  ·split at h
   ·injection h with h; injection h with _ h; exact h.symm
   ·cases h
theorem chk_facts {p : List Nd} {K : List (List Int)} {l : List Int} {n k f : Nat} {s r : List Sp} {e : Nat} (h : chk p K l n s k f = some (r, e)) : f ≤ e ∧ e ≤ l.length ∧ ∃ u rest, s = u :: rest ∧ u.1 = (k : Int) ∧ u.2.2 = (e : Int) ∧ u.2.1 = (f : Int) := by
 cases n with
 | zero => cases h
 | succ n =>
  cases s with
  | nil => cases h
  | cons u rest =>
   unfold chk at h
   split at h
   case isFalse => cases h
   rename_i hc
   obtain ⟨c1, c2, c3, c4⟩ := hc
   have key : e = u.2.2.toNat := by
    split at h
    ·split at h
     ·injection h with h; injection h with _ h; exact h.symm
     ·cases h
    ·split at h
     ·split at h
      ·injection h with h; injection h with _ h; exact h.symm
      ·cases h
     ·split at h
      ·obtain ⟨o, ho, h⟩ := Option.bind_eq_some_iff.1 h
       split at h
       ·rename_i he
        injection h with h
        rw [h] at he
        exact he
       ·cases h
      ·split at h
       ·obtain ⟨o, ho, h⟩ := Option.bind_eq_some_iff.1 h
        obtain ⟨o', ho', h⟩ := Option.bind_eq_some_iff.1 h
        split at h
        ·rename_i he
         injection h with h
         rw [h] at he
         exact he
        ·cases h
       ·exact chkS_end h
   exact ⟨by omega, by omega, u, rest, rfl, c1, by omega, c2⟩
theorem chk_eq {p : List Nd} {K : List (List Int)} {l : List Int} {n k f : Nat} {u : Sp} {rest : List Sp} (hk : k < p.length) : chk p K l (n + 1) (u :: rest) k f =
  if u.1 = (k : Int) ∧ u.2.1 = (f : Int) ∧ (f : Int) ≤ u.2.2 ∧ u.2.2 ≤ (l.length : Int) then
   if p[k].1 = 1 then (if f = u.2.2.toNat then some (rest, u.2.2.toNat) else none)
   else if p[k].1 = 2 then (if u.2.2.toNat = f + 1 ∧ inS p[k].2 ((l[f]?).getD 0) = true then some (rest, u.2.2.toNat) else none)
   else if p[k].1 = 4 then (chk p K l n rest (if (rest.head?).map (·.1) = some ((kid K k 0 : Nat) : Int) then kid K k 0 else kid K k 1) f).bind fun o => if o.2 = u.2.2.toNat then some o else none
   else if p[k].1 = 3 then (chk p K l n rest (kid K k 0) f).bind fun o => (chk p K l n o.1 (kid K k 1) o.2).bind fun o' => if o'.2 = u.2.2.toNat then some o' else none
   else chkS (fun s f => chk p K l n s (kid K k 0) f) u.2.2.toNat (u.2.2.toNat - f + 1) rest f
  else none := by
 have hop : ((p[k]?).map (·.1)).getD 0 = p[k].1 := by rw [List.getElem?_eq_getElem hk]; rfl
 have hos : ((p[k]?).map (·.2)).getD [] = p[k].2 := by rw [List.getElem?_eq_getElem hk]; rfl
 conv => lhs; unfold chk
 rw [hop, hos]
/-- What the one side answers, of what was taken off. -/
def SpecAns (o : Option (List Sp × Nat)) (x : Option (List Sp × Int × Bool)) : Prop := match o with
 | some (r, e) => x = some (r, (e : Int), true)
 | none => ∃ r e, x = some (r, e, false)
def ImplAns (o : Option (List Sp × Nat)) (t : Nat) (x : Option (Bool × List Sp)) : Prop := match o with
 | some (r, e) => if e = t then x = some (true, r) else ∃ r', x = some (false, r')
 | none => ∃ r', x = some (false, r')
theorem cut_tail (u : Sp) (rest : List Sp) : cut? (u :: rest) 1 (((u :: rest).length : Nat) : Int) = some rest := by
 have := cut?_at (xs := u :: rest) (a := 1) (b := (u :: rest).length) (by simp) (Nat.le_refl _)
 rw [show ((1 : Nat) : Int) = 1 from rfl] at this
 rw [this]
 simp
section
variable {p : List Nd} {K : List (List Int)} {l : List Int}
theorem p_chkStar {self : List Nd → List Int → List Sp → Int → Int → Option (List Sp × Int × Bool)} {C : List Sp → Nat → Option (List Sp × Nat)} {k a t : Nat} {u : Sp} (hu : u.2.2 = (t : Int)) (hw : IntKind.i64.wrap ((k : Int) - 1) = (a : Int)) (hl : t ≤ l.length) (hC : ∀ s f, f ≤ l.length → SpecAns (C s f) (self p l s (a : Int) f)) (hC2 : ∀ s f r e, C s f = some (r, e) → f ≤ e ∧ e ≤ l.length) : ∀ (n kf f : Nat) (s : List Sp), f ≤ l.length → t - f < n → t - f < kf →
  (∃ r e b, z23.l1 p l (k : Int) self u kf s f = some (.ret (r, e, b)) ∧ b = false ∧ chkS C t n s f = none) ∨ ∃ r e, z23.l1 p l (k : Int) self u kf s f = some (.go (r, ((e : Nat) : Int))) ∧ chkS C t n s f = if e = t then some (r, t) else none := by
 intro n
 induction n with
 | zero => intro kf f s _ h; omega
 | succ n ih =>
  intro kf f s hf hn hk
  obtain ⟨kf, rfl⟩ := Nat.exists_eq_succ_of_ne_zero (show kf ≠ 0 by omega)
  rw [z23.l1, hu]
  unfold chkS
  by_cases hft : f < t
  ·rw [if_pos (by simpa using hft), if_pos hft, hw]
   have h1 := hC s f hf
   unfold SpecAns at h1
   cases hc : C s f with
   | none =>
    rw [hc] at h1
    obtain ⟨r, e, h1⟩ := h1
    rw [h1]
    exact .inl ⟨_, _, _, rfl, rfl, rfl⟩
   | some o =>
    obtain ⟨r, e⟩ := o
    rw [hc] at h1
    have h1 : self p l s (a : Int) f = some (r, (e : Int), true) := h1
    have h2 := hC2 s f r e hc
    rw [h1]
    simp only [Option.bind_some, Bool.not_true, Bool.false_eq_true, if_false]
    by_cases he : e = f
    ·subst he
     simp only [beq_self_eq_true, if_true]
     exact .inl ⟨_, _, _, rfl, rfl, by first | rfl | trivial⟩
    ·rw [if_neg he]
     have : ((e : Int) == (f : Int)) = false := by simp; omega
     simp only [this, Bool.false_eq_true, if_false]
     exact ih kf e r (by omega) (by omega) (by omega)
  ·rw [if_neg (by simpa using hft), if_neg hft]
   exact .inr ⟨s, f, rfl, rfl⟩
theorem p_chkSpec (hp : p.length ≤ 1000) (hset : ∀ u ∈ p, u.2.length ≤ 1000 ∧ u.2.length % 2 = 0) (hl : l.length ≤ 1000) (hK : Kids p K p.length) (hpl : ∀ u ∈ p, u.1 ≠ 5 ∧ u.1 ≠ 7) : ∀ (n k f : Nat) (s : List Sp), k < n → k < p.length → f ≤ l.length → SpecAns (chk p K l n s k f) (z23.r n p l s (k : Int) (f : Int)) := by
 intro n
 induction n with
 | zero => intro k f s h; omega
 | succ n ih =>
  intro k f s hkn hk hf
  have rp : rd? p (k : Int) = some p[k] := rd?_at hk
  have hne := hpl _ (List.getElem_mem hk)
  obtain ⟨ks, hks, k0, k1, k2, k3⟩ := hK.2 k hk hk
  rw [z23.r, z23.b]
  cases s with
  | nil => exact ⟨_, _, rfl⟩
  | cons u rest =>
   have c0 : ((((u :: rest).length : Nat) : Int) == 0) = false := by simp; omega
   have rs : rd? (u :: rest) 0 = some u := rfl
   rw [chk_eq hk, c0]
   simp only [Bool.false_eq_true, if_false, rs, Option.bind_some, p_l1In, cut_tail, rp]
   by_cases hc : u.1 = (k : Int) ∧ u.2.1 = (f : Int) ∧ (f : Int) ≤ u.2.2 ∧ u.2.2 ≤ (l.length : Int)
   case neg =>
    rw [if_neg hc]
    have e : (if (u.1 != (k : Int)) = true then some true else if (u.2.1 != (f : Int)) = true then some true else some (!(decide ((f : Int) ≤ u.2.2) && decide (u.2.2 ≤ (l.length : Int))))) = some true := by
     by_cases h1 : u.1 = (k : Int)
     ·by_cases h2 : u.2.1 = (f : Int)
      ·have : ¬ ((f : Int) ≤ u.2.2 ∧ u.2.2 ≤ (l.length : Int)) := fun h => hc ⟨h1, h2, h⟩
       have h3 : (decide ((f : Int) ≤ u.2.2) && decide (u.2.2 ≤ (l.length : Int))) = false := by
        rw [Bool.and_eq_false_iff]
        simp only [decide_eq_false_iff_not]
        omega
       simp [h1, h2, h3]
      ·simp [h1, h2]
     ·simp [h1]
    rw [e]
    exact ⟨_, _, rfl⟩
   rw [if_pos hc]
   obtain ⟨c1, c2, c3, c4⟩ := hc
   obtain ⟨t, ht⟩ := Int.eq_ofNat_of_zero_le (show 0 ≤ u.2.2 by omega)
   have x1 : (u.1 != (k : Int)) = false := by simp [c1]
   have x2 : (u.2.1 != (f : Int)) = false := by simp [c2]
   have x3 : decide ((f : Int) ≤ (t : Int)) = true := by simp; omega
   have x4 : decide ((t : Int) ≤ (l.length : Int)) = true := by simp; omega
   rw [ht] at c3 c4
   simp only [x1, x2, Bool.false_eq_true, if_false, ht, x3, x4, Bool.and_self, Bool.not_true, Option.bind_some, Int.toNat_natCast]
   rcases ar_cases k3 with h | h | h | h | h | h | h
   ·simp only [h, beq_self_eq_true, if_true]
    by_cases hft : f = t
    ·subst hft
     rw [if_pos rfl]
     simp [SpecAns]
    ·rw [if_neg hft]
     have : ((f : Int) == (t : Int)) = false := by simp; omega
     rw [this]
     exact ⟨_, _, rfl⟩
   ·have b1 : ((2 : Int) == 1) = false := by decide
    have n1 : ¬ ((2 : Int) = 1) := by decide
    simp only [h, b1, n1, Bool.false_eq_true, if_false, beq_self_eq_true, if_true]
    have hsk := hset _ (List.getElem_mem hk)
    rw [y03 f (by omega)]
    by_cases hft : t = f + 1
    ·subst hft
     have d1 : (((f + 1 : Nat) : Int) == ((f + 1 : Nat) : Int)) = true := by simp
     simp only [d1, if_true, rd?_at (show f < l.length by omega), Option.bind_some]
     rw [p_specIn _ _ (by omega) hsk.2, List.getElem?_eq_getElem (show f < l.length by omega), Option.getD_some]
     cases inS p[k].2 l[f]
     ·rw [if_neg (by simp)]; exact ⟨_, _, rfl⟩
     ·rw [if_pos (by simp)]; rfl
    ·have d1 : ((t : Int) == ((f + 1 : Nat) : Int)) = false := by simp; omega
     simp only [d1, Bool.false_eq_true, if_false]
     rw [if_neg (fun h => hft h.1)]
     exact ⟨_, _, rfl⟩
   ·-- one behind the other
    have b1 : ((3 : Int) == 1) = false := by decide
    have b2 : ((3 : Int) == 2) = false := by decide
    have b4 : ((3 : Int) == 4) = false := by decide
    have n1 : ¬ ((3 : Int) = 1) := by decide
    have n2 : ¬ ((3 : Int) = 2) := by decide
    have n4 : ¬ ((3 : Int) = 4) := by decide
    obtain ⟨g, e1, g0, g1, g2⟩ := k2 (by rw [h]; rfl)
    obtain ⟨g, rfl⟩ := Int.eq_ofNat_of_zero_le g0
    have hw : IntKind.i64.wrap ((k : Int) - 1) = ((k - 1 : Nat) : Int) := by rw [yv (by omega) (by omega)]; omega
    have q0 : kid K k 0 = g := by unfold kid; rw [hks, e1]; simp
    have q1 : kid K k 1 = k - 1 := by unfold kid; rw [hks, e1]; simp
    simp only [h, b1, b2, b4, n1, n2, n4, Bool.false_eq_true, if_false, beq_self_eq_true, if_true, g2, Option.bind_some, q0, q1, hw]
    have A := ih g f rest (by omega) (by omega) hf
    unfold SpecAns at A
    cases ha : chk p K l n rest g f with
    | none =>
     rw [ha] at A
     obtain ⟨r, e, A⟩ := A
     rw [A]
     exact ⟨_, _, rfl⟩
    | some o =>
     obtain ⟨r, e⟩ := o
     rw [ha] at A
     have A : z23.r n p l rest (g : Int) (f : Int) = some (r, (e : Int), true) := A
     have he := chk_facts ha
     rw [A]
     simp only [Option.bind_some, Bool.not_true, Bool.false_eq_true, if_false]
     have B := ih (k - 1) e r (by omega) (by omega) he.2.1
     unfold SpecAns at B
     cases hb : chk p K l n r (k - 1) e with
     | none =>
      rw [hb] at B
      obtain ⟨r2, e2, B⟩ := B
      rw [B]
      exact ⟨_, _, rfl⟩
     | some o =>
      obtain ⟨r2, e2⟩ := o
      rw [hb] at B
      have B : z23.r n p l r ((k - 1 : Nat) : Int) (e : Int) = some (r2, (e2 : Int), true) := B
      rw [B]
      simp only [Option.bind_some, if_true]
      by_cases h3 : e2 = t
      ·subst h3; rw [if_pos rfl]; simp [SpecAns]
      ·rw [if_neg h3]
       have : ((e2 : Int) == (t : Int)) = false := by simp; omega
       rw [this]
       exact ⟨_, _, rfl⟩
   ·-- one or the other
    have b1 : ((4 : Int) == 1) = false := by decide
    have b2 : ((4 : Int) == 2) = false := by decide
    have n1 : ¬ ((4 : Int) = 1) := by decide
    have n2 : ¬ ((4 : Int) = 2) := by decide
    obtain ⟨g, e1, g0, g1, g2⟩ := k2 (by rw [h]; rfl)
    obtain ⟨g, rfl⟩ := Int.eq_ofNat_of_zero_le g0
    have hw : IntKind.i64.wrap ((k : Int) - 1) = ((k - 1 : Nat) : Int) := by rw [yv (by omega) (by omega)]; omega
    have q0 : kid K k 0 = g := by unfold kid; rw [hks, e1]; simp
    have q1 : kid K k 1 = k - 1 := by unfold kid; rw [hks, e1]; simp
    simp only [h, b1, b2, n1, n2, Bool.false_eq_true, if_false, beq_self_eq_true, if_true, g2, Option.bind_some, q0, q1, hw]
    have part : ((if decide ((rest.length : Int) > 0) = true then (rd? rest 0).bind fun u83 => some (u83.1 == (g : Int)) else some false).bind fun o => if o = true then some (g : Int) else some ((k - 1 : Nat) : Int)) = some (((if (rest.head?).map (·.1) = some (g : Int) then g else k - 1 : Nat)) : Int) := by
     cases rest with
     | nil => simp
     | cons v vs =>
      have : rd? (v :: vs) 0 = some v := rfl
      rw [if_pos (by simp), this]
      simp only [Option.bind_some, List.head?_cons, Option.map_some, Option.some.injEq, beq_iff_eq]
      split <;> rfl
    rw [part]
    simp only [Option.bind_some]
    generalize hpt : (if (rest.head?).map (·.1) = some (g : Int) then g else k - 1 : Nat) = c
    have hc : c < k := by rw [← hpt]; split <;> omega
    have A := ih c f rest (by omega) (by omega) hf
    unfold SpecAns at A
    cases ha : chk p K l n rest c f with
    | none =>
     rw [ha] at A
     obtain ⟨r, e, A⟩ := A
     rw [A]
     exact ⟨_, _, rfl⟩
    | some o =>
     obtain ⟨r, e⟩ := o
     rw [ha] at A
     have A : z23.r n p l rest (c : Int) (f : Int) = some (r, (e : Int), true) := A
     rw [A]
     simp only [Option.bind_some, if_true]
     by_cases h3 : e = t
     ·subst h3; rw [if_pos rfl]; simp [SpecAns]
     ·rw [if_neg h3]
      have : ((e : Int) == (t : Int)) = false := by simp; omega
      rw [this]
      exact ⟨_, _, rfl⟩
   ·exact absurd h hne.1
   ·-- again and again
    have b1 : ((6 : Int) == 1) = false := by decide
    have b2 : ((6 : Int) == 2) = false := by decide
    have b3 : ((6 : Int) == 3) = false := by decide
    have b4 : ((6 : Int) == 4) = false := by decide
    have n1 : ¬ ((6 : Int) = 1) := by decide
    have n2 : ¬ ((6 : Int) = 2) := by decide
    have n3 : ¬ ((6 : Int) = 3) := by decide
    have n4 : ¬ ((6 : Int) = 4) := by decide
    obtain ⟨e1, g1⟩ := k1 (by rw [h]; rfl)
    have hw : IntKind.i64.wrap ((k : Int) - 1) = ((k - 1 : Nat) : Int) := by rw [yv (by omega) (by omega)]; omega
    have q0 : kid K k 0 = k - 1 := by unfold kid; rw [hks, e1]; simp
    simp only [h, b1, b2, b3, b4, n1, n2, n3, n4, Bool.false_eq_true, if_false, q0]
    rcases p_chkStar (p := p) (l := l) (self := z23.r n) (C := fun s f => chk p K l n s (k - 1) f) (k := k) (u := u) ht hw (by omega) (fun s f hf => ih (k - 1) f s (by omega) (by omega) hf) (fun s f r e he => ⟨(chk_facts he).1, (chk_facts he).2.1⟩) (t - f + 1) (((t : Int) - (f : Int)).toNat + 2) f rest hf (by omega) (by omega) with ⟨r, e, b, h1, rfl, h3⟩ | ⟨r, e, h1, h3⟩
    ·rw [h1, h3]
     exact ⟨_, _, rfl⟩
    ·rw [h1, h3]
     simp only [Option.bind_some]
     by_cases h4 : e = t
     ·subst h4; rw [if_pos rfl]; simp [SpecAns]
     ·rw [if_neg h4]
      have : ((e : Int) == (t : Int)) = false := by simp; omega
      rw [this]
      exact ⟨_, _, rfl⟩
   ·exact absurd h hne.2
end
/-- Sums that stop at a million. -/
def sumC (h : Nat → Int) : Nat → Nat → Int → Int
 | 0, _, s => s
 | n + 1, i, s => sumC h n (i + 1) (min (s + h i) 1000000)
theorem sumC_bd {h : Nat → Int} (hh : ∀ i, 0 ≤ h i) : ∀ (n i : Nat) (s : Int), 0 ≤ s → s ≤ 1000000 → 0 ≤ sumC h n i s ∧ sumC h n i s ≤ 1000000
 | 0, _, _, h0, h1 => ⟨h0, h1⟩
 | n + 1, i, s, h0, h1 => sumC_bd hh n (i + 1) _ (by have := hh i; omega) (by omega)
theorem sumC_congr {h g : Nat → Int} : ∀ (n i : Nat) (s : Int), (∀ k, i ≤ k → k < i + n → h k = g k) → sumC h n i s = sumC g n i s
 | 0, _, _, _ => rfl
 | n + 1, i, s, hk => by
  unfold sumC
  rw [hk i (Nat.le_refl _) (by omega)]
  exact sumC_congr n (i + 1) _ fun k h1 h2 => hk k (by omega) (by omega)
def starC (g : Nat → Nat → Int) : Nat → Nat → Nat → Int
 | 0, _, _ => 1
 | n + 1, f, t => if f = t then 1 else sumC (fun m => g f m * starC g n m t) (t - f) (f + 1) 0
theorem starC_more (g : Nat → Nat → Int) : ∀ (n m f t : Nat), f ≤ t → t - f ≤ n → t - f ≤ m → starC g n f t = starC g m f t
 | 0, 0, _, _, _, _, _ => rfl
 | 0, m + 1, f, t, h, h1, _ => by unfold starC; rw [if_pos (by omega)]
 | n + 1, 0, f, t, h, _, h1 => by unfold starC; rw [if_pos (by omega)]
 | n + 1, m + 1, f, t, h, h1, h2 => by
  unfold starC
  split
  ·rfl
  ·refine sumC_congr _ _ _ fun k g1 g2 => ?_
   show _ * _ = _ * _
   rw [starC_more g n m k t (by omega) (by omega) (by omega)]
theorem starC_bd {g : Nat → Nat → Int} (hg : ∀ f t, 0 ≤ g f t) : ∀ (n f t : Nat), 0 ≤ starC g n f t ∧ starC g n f t ≤ 1000000
 | 0, _, _ => by unfold starC; omega
 | n + 1, f, t => by
  unfold starC
  split
  ·omega
  ·exact sumC_bd (fun i => Int.mul_nonneg (hg _ _) (starC_bd hg n i t).1) _ _ _ (Int.le_refl _) (by omega)
/-- How many parses there are, at most a million. -/
def cnt (l : List Int) : RT → Nat → Nat → Int
 | .nil, f, t => if f = t then 1 else 0
 | .set s, f, t => if t = f + 1 ∧ inS s (l[f]?.getD 0) = true then 1 else 0
 | .cat a b, f, t => sumC (fun m => cnt l a f m * cnt l b m t) (t - f + 1) f 0
 | .or a b, f, t => min (cnt l a f t + cnt l b f t) 1000000
 | .star a, f, t => starC (cnt l a) (t - f) f t
 | _, _, _ => 0
theorem cnt_bd (l : List Int) : ∀ (T : RT) (f t : Nat), 0 ≤ cnt l T f t ∧ cnt l T f t ≤ 1000000 := by
 intro T
 induction T with
 | nil => intro f t; unfold cnt; split <;> omega
 | set s => intro f t; unfold cnt; split <;> omega
 | cat a b ha hb => intro f t; unfold cnt; exact sumC_bd (fun i => Int.mul_nonneg (ha _ _).1 (hb _ _).1) _ _ _ (Int.le_refl _) (by omega)
 | or a b ha hb => intro f t; unfold cnt; have := ha f t; have := hb f t; omega
 | and a b ha hb => intro f t; unfold cnt; omega
 | star a ha => intro f t; unfold cnt; exact starC_bd (fun f t => (ha f t).1) _ _ _
 | not a ha => intro f t; unfold cnt; omega
theorem cnt_star (l : List Int) (a : RT) {f t : Nat} (h : f < t) : cnt l (.star a) f t = sumC (fun m => cnt l a f m * cnt l (.star a) m t) (t - f) (f + 1) 0 := by
 show starC (cnt l a) (t - f) f t = _
 obtain ⟨n, hn⟩ : ∃ n, t - f = n + 1 := ⟨t - f - 1, by omega⟩
 rw [hn]
 unfold starC
 rw [if_neg (by omega), hn]
 refine sumC_congr _ _ _ fun k g1 g2 => ?_
 show _ * _ = _ * starC _ _ _ _
 rw [starC_more (cnt l a) n (t - k) k t (by omega) (by omega) (Nat.le_refl _)]
theorem cnt_star_eq (l : List Int) (a : RT) (t : Nat) : cnt l (.star a) t t = 1 := by
 show starC (cnt l a) (t - t) t t = 1
 rw [Nat.sub_self]
 rfl
/-- A step of a sum, without overflow. -/
theorem stepC {s a b : Int} (hs : 0 ≤ s) (hs1 : s ≤ 1000000) (ha : 0 ≤ a) (ha1 : a ≤ 1000000) (hb : 0 ≤ b) (hb1 : b ≤ 1000000) : IntKind.i64.wrap (s + IntKind.i64.wrap (a * b)) = s + a * b := by
 have h1 : a * b ≤ 1000000 * 1000000 := Int.mul_le_mul ha1 hb1 hb (by omega)
 have h2 : 0 ≤ a * b := Int.mul_nonneg ha hb
 rw [yv (n := a * b) (by omega) (by omega), yv (by omega) (by omega)]
def valC (l : List Int) (p : List Nd) (K : List (List Int)) (c : Nat) : Nat → Nat → Int := cnt l (getT (trs p K) (c : Int))
/-- What a node of a pattern is, by its parts. -/
theorem kid_cases {p : List Nd} {K : List (List Int)} (hK : Kids p K p.length) (hpl : ∀ u ∈ p, u.1 ≠ 5 ∧ u.1 ≠ 7) {k : Nat} (hk : k < p.length) :
  (p[k].1 = 1 ∧ getT (trs p K) (k : Int) = .nil) ∨ (p[k].1 = 2 ∧ getT (trs p K) (k : Int) = .set p[k].2) ∨
  (p[k].1 = 3 ∧ kid K k 0 < kid K k 1 ∧ kid K k 1 < k ∧ getT (trs p K) (k : Int) = .cat (getT (trs p K) (kid K k 0 : Nat)) (getT (trs p K) (kid K k 1 : Nat))) ∨
  (p[k].1 = 4 ∧ kid K k 0 < kid K k 1 ∧ kid K k 1 < k ∧ getT (trs p K) (k : Int) = .or (getT (trs p K) (kid K k 0 : Nat)) (getT (trs p K) (kid K k 1 : Nat))) ∨
  (p[k].1 = 6 ∧ kid K k 0 < k ∧ getT (trs p K) (k : Int) = .star (getT (trs p K) (kid K k 0 : Nat))) := by
 obtain ⟨ks, hks, k0, k1, k2, k3⟩ := hK.2 k hk hk
 have hne := hpl _ (List.getElem_mem hk)
 have two : ar p[k].1 = 2 → ∃ g : Nat, ks = [(g : Int), ((k - 1 : Nat) : Int)] ∧ g < k - 1 ∧ kid K k 0 = g ∧ kid K k 1 = k - 1 ∧ 1 ≤ k := fun h2 => by
  obtain ⟨g, e1, g0, g1, g2⟩ := k2 h2
  obtain ⟨g, rfl⟩ := Int.eq_ofNat_of_zero_le g0
  have e2 : ((k : Int) - 1) = ((k - 1 : Nat) : Int) := by omega
  rw [e2] at e1
  refine ⟨g, e1, by omega, ?_, ?_, by omega⟩
  ·unfold kid; rw [hks, e1]; simp
  ·unfold kid; rw [hks, e1]; simp
 rcases ar_cases k3 with h | h | h | h | h | h | h
 ·refine .inl ⟨h, ?_⟩
  have e := k0 (by rw [h]; rfl)
  rw [trs_at hK hk hks (by rw [e]; intro c hc; simp at hc), e]; unfold mkT; simp [h]
 ·refine .inr (.inl ⟨h, ?_⟩)
  have e := k0 (by rw [h]; rfl)
  rw [trs_at hK hk hks (by rw [e]; intro c hc; simp at hc), e]; unfold mkT; simp [h]
 ·obtain ⟨g, e, h1, h2, h3, h4⟩ := two (by rw [h]; rfl)
  refine .inr (.inr (.inl ⟨h, by omega, by omega, ?_⟩))
  rw [h2, h3, trs_at hK hk hks (by rw [e]; intro c hc; simp at hc; omega), e]; unfold mkT; simp [h]
 ·obtain ⟨g, e, h1, h2, h3, h4⟩ := two (by rw [h]; rfl)
  refine .inr (.inr (.inr (.inl ⟨h, by omega, by omega, ?_⟩)))
  rw [h2, h3, trs_at hK hk hks (by rw [e]; intro c hc; simp at hc; omega), e]; unfold mkT; simp [h]
 ·exact absurd h hne.1
 ·refine .inr (.inr (.inr (.inr ?_)))
  obtain ⟨e1, h1⟩ := k1 (by rw [h]; rfl)
  have e2 : ((k : Int) - 1) = ((k - 1 : Nat) : Int) := by omega
  rw [e2] at e1
  have h0 : kid K k 0 = k - 1 := by unfold kid; rw [hks, e1]; simp
  refine ⟨h, by omega, ?_⟩
  rw [h0, trs_at hK hk hks (by rw [e1]; intro c hc; simp at hc; omega), e1]; unfold mkT; simp [h]
 ·exact absurd h hne.2
/-- Sums that do not stop. -/
def sumP (h : Nat → Int) : Nat → Nat → Int
 | 0, _ => 0
 | n + 1, i => h i + sumP h n (i + 1)
theorem sumP_pos {h : Nat → Int} (hh : ∀ i, 0 ≤ h i) : ∀ n i, 0 ≤ sumP h n i
 | 0, _ => Int.le_refl _
 | n + 1, i => by unfold sumP; have := hh i; have := sumP_pos hh n (i + 1); omega
theorem sumC_P {h : Nat → Int} (hh : ∀ i, 0 ≤ h i) : ∀ (n i : Nat) (s : Int), s ≤ 1000000 → sumC h n i s = min (s + sumP h n i) 1000000
 | 0, _, s, hs => by unfold sumC sumP; omega
 | n + 1, i, s, hs => by
  unfold sumC
  rw [sumC_P hh n (i + 1) _ (by omega), sumP]
  have := sumP_pos hh n (i + 1)
  have := hh i
  omega
theorem sumP_ge {h : Nat → Int} (hh : ∀ i, 0 ≤ h i) : ∀ (n i k : Nat), i ≤ k → k < i + n → h k ≤ sumP h n i
 | 0, _, _, h1, h2 => by omega
 | n + 1, i, k, h1, h2 => by
  unfold sumP
  have := hh i
  by_cases e : k = i
  ·subst e; have := sumP_pos hh n (k + 1); omega
  ·have := sumP_ge hh n (i + 1) k (by omega) (by omega); omega
theorem sumP_two {h : Nat → Int} (hh : ∀ i, 0 ≤ h i) : ∀ (n i k m : Nat), i ≤ k → k < m → m < i + n → h k + h m ≤ sumP h n i
 | 0, _, _, _, h1, h2, h3 => by omega
 | n + 1, i, k, m, h1, h2, h3 => by
  unfold sumP
  have := hh i
  by_cases e : k = i
  ·subst e; have := sumP_ge hh n (k + 1) m (by omega) (by omega); omega
  ·have := sumP_two hh n (i + 1) k m (by omega) h2 (by omega); omega
theorem sumP_some {h : Nat → Int} (hh : ∀ i, 0 ≤ h i) : ∀ (n i : Nat), 1 ≤ sumP h n i → ∃ k, i ≤ k ∧ k < i + n ∧ 1 ≤ h k
 | 0, _, h1 => by unfold sumP at h1; omega
 | n + 1, i, h1 => by
  unfold sumP at h1
  by_cases e : 1 ≤ h i
  ·exact ⟨i, Nat.le_refl _, by omega, e⟩
  ·obtain ⟨k, a, b, c⟩ := sumP_some hh n (i + 1) (by have := hh i; omega)
   exact ⟨k, by omega, by omega, c⟩
theorem sumC_some {h : Nat → Int} (hh : ∀ i, 0 ≤ h i) (n i : Nat) : 1 ≤ sumC h n i 0 ↔ ∃ k, i ≤ k ∧ k < i + n ∧ 1 ≤ h k := by
 rw [sumC_P hh n i 0 (by omega)]
 constructor
 ·intro h1; exact sumP_some hh n i (by omega)
 ·rintro ⟨k, a, b, c⟩
  have := sumP_ge hh n i k a b
  omega
theorem sumC_one {h : Nat → Int} (hh : ∀ i, 0 ≤ h i) {n i : Nat} (h1 : sumC h n i 0 = 1) {k : Nat} (a : i ≤ k) (b : k < i + n) (c : 1 ≤ h k) : h k = 1 ∧ ∀ m, i ≤ m → m < i + n → 1 ≤ h m → m = k := by
 rw [sumC_P hh n i 0 (by omega)] at h1
 have := sumP_ge hh n i k a b
 refine ⟨by omega, fun m a' b' c' => ?_⟩
 rcases Nat.lt_trichotomy m k with x | x | x
 ·have := sumP_two hh n i m k a' x b; omega
 ·exact x
 ·have := sumP_two hh n i k m a x b'; omega
theorem mul_one_iff {a b : Int} (ha : 0 ≤ a) (hb : 0 ≤ b) : 1 ≤ a * b ↔ 1 ≤ a ∧ 1 ≤ b := by
 constructor
 ·intro h
  by_cases h1 : a = 0
  ·subst h1; simp at h
  ·by_cases h2 : b = 0
   ·subst h2; simp at h
   ·omega
 ·rintro ⟨h1, h2⟩
  have := Int.mul_le_mul h1 h2 (by omega) (by omega)
  omega
theorem mul_one_eq {a b : Int} (ha : 1 ≤ a) (hb : 1 ≤ b) (h : a * b = 1) : a = 1 ∧ b = 1 := by
 have h1 : a * 1 ≤ a * b := Int.mul_le_mul (Int.le_refl a) hb (by omega) (by omega)
 have h2 : 1 * b ≤ a * b := Int.mul_le_mul ha (Int.le_refl b) (by omega) (by omega)
 omega
section
variable {p : List Nd} {K : List (List Int)} {l : List Int}
theorem cnt_at_star {k a f t : Nat} (hT : getT (trs p K) (k : Int) = .star (getT (trs p K) (a : Int))) (h : f < t) : cnt l (getT (trs p K) (k : Int)) f t = sumC (fun m => cnt l (getT (trs p K) (a : Int)) f m * cnt l (getT (trs p K) (k : Int)) m t) (t - f) (f + 1) 0 := by
 rw [hT]; exact cnt_star l _ h
/-- A node matches just where it has a parse. -/
theorem acc_cnt (hK : Kids p K p.length) (hpl : ∀ u ∈ p, u.1 ≠ 5 ∧ u.1 ≠ 7) : ∀ (k : Nat), k < p.length → ∀ f t, f ≤ t → t ≤ l.length → (tA p K l (k : Int) f t = true ↔ 1 ≤ cnt l (getT (trs p K) (k : Int)) f t) := by
 intro k
 induction k using Nat.strongRecOn with
 | ind k ih =>
 intro hk f t hf ht
 have nn : ∀ (T U : RT) (f m t : Nat), 0 ≤ cnt l T f m * cnt l U m t := fun T U f m t => Int.mul_nonneg (cnt_bd l T f m).1 (cnt_bd l U m t).1
 rcases kid_cases hK hpl hk with ⟨h, hT⟩ | ⟨h, hT⟩ | ⟨h, ha, hb, hT⟩ | ⟨h, ha, hb, hT⟩ | ⟨h, ha, hT⟩
 ·unfold tA
  rw [hT, acc_nil_seg l f t hf ht]
  unfold cnt
  by_cases e : f = t <;> simp [e]
 ·unfold tA
  rw [hT, acc_set_seg _ l f t hf ht]
  unfold cnt
  by_cases e : t = f + 1
  ·subst e
   have : f < l.length := by omega
   simp only [dif_pos, List.getElem?_eq_getElem this, Option.getD_some, true_and]
   cases inS p[k].2 l[f] <;> simp
  ·simp [e]
 ·have A := ih _ (show kid K k 0 < k by omega) (by omega)
  have B := ih _ hb (by omega)
  unfold tA at A B ⊢
  rw [hT, acc_cat_seg _ _ l f t hf ht, List.any_eq_true]
  show _ ↔ 1 ≤ sumC _ _ _ 0
  rw [sumC_some (fun i => nn _ _ f i t)]
  constructor
  ·rintro ⟨i, hi, h⟩
   have := List.mem_range.1 hi
   rw [Bool.and_eq_true] at h
   exact ⟨f + i, by omega, by omega, (mul_one_iff (cnt_bd ..).1 (cnt_bd ..).1).2 ⟨(A _ _ (by omega) (by omega)).1 h.1, (B _ _ (by omega) (by omega)).1 h.2⟩⟩
  ·rintro ⟨i, h1, h2, h3⟩
   rw [mul_one_iff (cnt_bd ..).1 (cnt_bd ..).1] at h3
   refine ⟨i - f, List.mem_range.2 (by omega), ?_⟩
   rw [show f + (i - f) = i by omega, Bool.and_eq_true]
   exact ⟨(A _ _ (by omega) (by omega)).2 h3.1, (B _ _ (by omega) (by omega)).2 h3.2⟩
 ·have A := ih _ (show kid K k 0 < k by omega) (by omega) f t hf ht
  have B := ih _ hb (by omega) f t hf ht
  unfold tA at A B ⊢
  rw [hT]
  show (acc _ _ || acc _ _) = true ↔ 1 ≤ min (_ + _) 1000000
  rw [Bool.or_eq_true, A, B]
  have a1 := (cnt_bd l (getT (trs p K) (kid K k 0 : Nat)) f t).1
  have b1 := (cnt_bd l (getT (trs p K) (kid K k 1 : Nat)) f t).1
  omega
 ·have A := ih _ ha (by omega)
  -- by how much is left
  obtain ⟨n, hn⟩ : ∃ n, t - f = n := ⟨_, rfl⟩
  revert f
  induction n using Nat.strongRecOn with
  | ind n jh =>
  intro f hf hn
  by_cases e : f = t
  ·subst e
   have c := cnt_star_eq l (getT (trs p K) (kid K k 0 : Nat)) f
   rw [← hT] at c
   rw [c]
   exact ⟨fun _ => by omega, fun _ => star_nil hT ht⟩
  ·rw [cnt_at_star hT (by omega), sumC_some (fun i => nn _ _ f i t)]
   unfold tA at A ⊢
   rw [hT, acc_star_seg _ l f t hf ht, Bool.or_eq_true, List.any_eq_true]
   constructor
   ·rintro (h | ⟨i, hi, h⟩)
    ·simp at h; omega
    have := List.mem_range.1 hi
    rw [Bool.and_eq_true] at h
    have S := jh (t - (f + 1 + i)) (by omega) (f + 1 + i) (by omega) rfl
    unfold tA at S
    rw [hT] at S
    refine ⟨f + 1 + i, by omega, by omega, (mul_one_iff (cnt_bd ..).1 (cnt_bd ..).1).2 ⟨(A _ _ (by omega) (by omega)).1 h.1, S.1 h.2⟩⟩
   ·rintro ⟨i, h1, h2, h3⟩
    rw [mul_one_iff (cnt_bd ..).1 (cnt_bd ..).1] at h3
    have S := jh (t - i) (by omega) i (by omega) rfl
    unfold tA at S
    rw [hT] at S
    refine .inr ⟨i - (f + 1), List.mem_range.2 (by omega), ?_⟩
    rw [show f + 1 + (i - (f + 1)) = i by omega, Bool.and_eq_true]
    exact ⟨(A _ _ (by omega) (by omega)).2 h3.1, S.2 h3.2⟩
theorem prs_head {n k f t : Nat} (hn : n ≠ 0) : ∃ r, prs p K l n k f t = ((k : Int), (f : Int), (t : Int)) :: r := by
 obtain ⟨n, rfl⟩ := Nat.exists_eq_succ_of_ne_zero hn
 exact ⟨_, rfl⟩
/-- The parse that is chosen is one. -/
theorem chk_prs (hK : Kids p K p.length) (hpl : ∀ u ∈ p, u.1 ≠ 5 ∧ u.1 ≠ 7) : ∀ (k : Nat), k < p.length → ∀ (n f t : Nat) (r : List Sp), k < n → f ≤ t → t ≤ l.length → tA p K l (k : Int) f t = true → chk p K l n (prs p K l n k f t ++ r) k f = some (r, t) := by
 intro k
 induction k using Nat.strongRecOn with
 | ind k ih =>
 intro hk n f t r hn hf ht hA
 obtain ⟨n, rfl⟩ := Nat.exists_eq_succ_of_ne_zero (show n ≠ 0 by omega)
 have hcond : (((k : Int), (f : Int), (t : Int)) : Sp).1 = (k : Int) ∧ (((k : Int), (f : Int), (t : Int)) : Sp).2.1 = (f : Int) ∧ (f : Int) ≤ (((k : Int), (f : Int), (t : Int)) : Sp).2.2 ∧ (((k : Int), (f : Int), (t : Int)) : Sp).2.2 ≤ (l.length : Int) := ⟨rfl, rfl, by show (f : Int) ≤ t; omega, by show (t : Int) ≤ _; omega⟩
 rw [prs_eq hk, List.cons_append, chk_eq hk, if_pos hcond]
 have htt : (((k : Int), (f : Int), (t : Int)) : Sp).2.2.toNat = t := Int.toNat_natCast t
 rw [htt]
 rcases kid_cases hK hpl hk with ⟨h, hT⟩ | ⟨h, hT⟩ | ⟨h, ha, hb, hT⟩ | ⟨h, ha, hb, hT⟩ | ⟨h, ha, hT⟩
 ·unfold tA at hA
  rw [hT, acc_nil_seg l f t hf ht] at hA
  simp only [decide_eq_true_eq] at hA
  rw [if_pos h, if_pos hA, if_neg (by rw [h]; decide), if_neg (by rw [h]; decide), if_neg (by rw [h]; decide), List.nil_append]
 ·unfold tA at hA
  rw [hT, acc_set_seg _ l f t hf ht] at hA
  by_cases e : t = f + 1
  ·subst e
   have hl : f < l.length := by omega
   simp only [dif_pos] at hA
   rw [if_neg (by rw [h]; decide), if_pos h, if_pos ⟨rfl, by rw [List.getElem?_eq_getElem hl]; exact hA⟩, if_neg (by rw [h]; decide), if_neg (by rw [h]; decide), if_neg (by rw [h]; decide), List.nil_append]
  ·rw [dif_neg e] at hA; cases hA
 ·obtain ⟨i, i1, i2⟩ := cat_on hT hf ht hA
  have t1 := topF_bd (fun m => tA p K l (kid K k 0 : Nat) f m && tA p K l (kid K k 1 : Nat) m t) f (t - f)
  have t2 := topF_ok (g := fun m => tA p K l (kid K k 0 : Nat) f m && tA p K l (kid K k 1 : Nat) m t) (f := f) ⟨i, i1, i2⟩
  rw [if_neg (by rw [h]; decide), if_neg (by rw [h]; decide), if_neg (by rw [h]; decide), if_pos h, if_neg (by rw [h]; decide), if_pos h]
  generalize topF _ f (t - f) = m at t1 t2 ⊢
  simp only [Bool.and_eq_true] at t2
  rw [List.append_assoc, ih _ (by omega) (by omega) n f m _ (by omega) t1.1 (by omega) t2.1]
  simp only [Option.bind_some]
  rw [ih _ hb (by omega) n m t r (by omega) (by omega) ht t2.2]
  simp
 ·rw [if_neg (by rw [h]; decide), if_neg (by rw [h]; decide), if_pos h, if_pos h]
  have or1 : tA p K l (kid K k 0 : Nat) f t = false → tA p K l (kid K k 1 : Nat) f t = true := fun h1 => by
   unfold tA at h1 hA ⊢
   rw [hT] at hA
   have hA : (acc _ _ || acc _ _) = true := hA
   rw [h1, Bool.false_or] at hA
   exact hA
  cases h0 : tA p K l (kid K k 0 : Nat) f t with
  | true =>
   rw [if_pos rfl]
   obtain ⟨r', hr'⟩ := prs_head (p := p) (K := K) (l := l) (n := n) (k := kid K k 0) (f := f) (t := t) (by omega)
   rw [if_pos (by rw [hr']; rfl), ih _ (by omega) (by omega) n f t r (by omega) hf ht h0]
   simp
  | false =>
   rw [if_neg (by simp)]
   obtain ⟨r', hr'⟩ := prs_head (p := p) (K := K) (l := l) (n := n) (k := kid K k 1) (f := f) (t := t) (by omega)
   rw [if_neg (by rw [hr']; simp; omega), ih _ hb (by omega) n f t r (by omega) hf ht (or1 h0)]
   simp
 ·rw [if_neg (by rw [h]; decide), if_neg (by rw [h]; decide), if_neg (by rw [h]; decide), if_neg (by rw [h]; decide), if_neg (by rw [h]; decide), if_neg (by rw [h]; decide), if_pos h]
  have key : ∀ (d f n1 n2 : Nat), t - f ≤ d → f ≤ t → d < n1 → d ≤ n2 → tA p K l (k : Int) f t = true → chkS (fun s f => chk p K l n s (kid K k 0) f) t n1 (starL (prs p K l n (kid K k 0)) (fun f m => tA p K l (kid K k 0 : Nat) f m && tA p K l (k : Int) m t) n2 f t ++ r) f = some (r, t) := by
   intro d
   induction d with
   | zero =>
    intro f n1 n2 h1 h2 h3 h4 h5
    obtain rfl : f = t := by omega
    obtain ⟨n1, rfl⟩ := Nat.exists_eq_succ_of_ne_zero (show n1 ≠ 0 by omega)
    unfold chkS
    rw [if_neg (by omega), if_pos rfl]
    cases n2 with
    | zero => rfl
    | succ n2 => unfold starL; rw [if_neg (by omega)]; rfl
   | succ d jh =>
    intro f n1 n2 h1 h2 h3 h4 h5
    by_cases e : f = t
    ·subst e
     exact jh f n1 n2 (by omega) h2 (by omega) (by omega) h5
    obtain ⟨n1, rfl⟩ := Nat.exists_eq_succ_of_ne_zero (show n1 ≠ 0 by omega)
    obtain ⟨n2, rfl⟩ := Nat.exists_eq_succ_of_ne_zero (show n2 ≠ 0 by omega)
    obtain ⟨i, i1, i0, i2⟩ := star_on hT (by omega) ht h5
    have t1 := topF_bd (fun m => tA p K l (kid K k 0 : Nat) f m && tA p K l (k : Int) m t) f (t - f)
    have t2 := topF_ok (g := fun m => tA p K l (kid K k 0 : Nat) f m && tA p K l (k : Int) m t) (f := f) ⟨i, i1, i2⟩
    have t3 := topF_ge (g := fun m => tA p K l (kid K k 0 : Nat) f m && tA p K l (k : Int) m t) i1 i2
    unfold chkS starL
    rw [if_pos (by omega), if_pos (by omega)]
    generalize topF _ f (t - f) = m at t1 t2 t3 ⊢
    simp only [Bool.and_eq_true] at t2
    rw [List.append_assoc, ih _ ha (by omega) n f m _ (by omega) t1.1 (by omega) t2.1]
    simp only [Option.bind_some]
    rw [if_neg (by omega)]
    exact jh m n1 n2 (by omega) (by omega) (by omega) (by omega) t2.2
  exact key (t - f) f _ _ (Nat.le_refl _) hf (by omega) (Nat.le_refl _) hA
/-- What is a parse stands for a match; where there is but one, it is the one that is chosen. -/
theorem chk_only (hK : Kids p K p.length) (hpl : ∀ u ∈ p, u.1 ≠ 5 ∧ u.1 ≠ 7) : ∀ (k : Nat), k < p.length → ∀ (n f e : Nat) (s r : List Sp), k < n → chk p K l n s k f = some (r, e) → tA p K l (k : Int) f e = true ∧ (cnt l (getT (trs p K) (k : Int)) f e = 1 → s = prs p K l n k f e ++ r) := by
 intro k
 induction k using Nat.strongRecOn with
 | ind k ih =>
 intro hk n f e s r hn hc
 obtain ⟨b1, b2, u, rest, rfl, u1, u2, u3⟩ := chk_facts hc
 obtain ⟨n, rfl⟩ := Nat.exists_eq_succ_of_ne_zero (show n ≠ 0 by omega)
 have hu : u = ((k : Int), (f : Int), (e : Int)) := by
  obtain ⟨x, y, z⟩ := u
  simp only at u1 u2 u3
  subst u1 u2 u3
  rfl
 rw [chk_eq hk, if_pos ⟨u1, u3, by omega, by omega⟩, u2, Int.toNat_natCast] at hc
 rw [prs_eq hk, hu, List.cons_append]
 have nn : ∀ (T U : RT) (f m t : Nat), 0 ≤ cnt l T f m * cnt l U m t := fun T U f m t => Int.mul_nonneg (cnt_bd l T f m).1 (cnt_bd l U m t).1
 have C := fun k hk => acc_cnt (l := l) hK hpl k hk
 rcases kid_cases hK hpl hk with ⟨h, hT⟩ | ⟨h, hT⟩ | ⟨h, ha, hb, hT⟩ | ⟨h, ha, hb, hT⟩ | ⟨h, ha, hT⟩
 ·rw [if_pos h] at hc
  rw [if_neg (by rw [h]; decide), if_neg (by rw [h]; decide), if_neg (by rw [h]; decide), List.nil_append]
  split at hc
  ·rename_i he
   injection hc with hc
   injection hc with hc _
   subst hc
   refine ⟨?_, fun _ => rfl⟩
   unfold tA
   rw [hT, acc_nil_seg l f e b1 b2]
   simp [he]
  ·cases hc
 ·rw [if_neg (by rw [h]; decide), if_pos h] at hc
  rw [if_neg (by rw [h]; decide), if_neg (by rw [h]; decide), if_neg (by rw [h]; decide), List.nil_append]
  split at hc
  ·rename_i he
   injection hc with hc
   injection hc with hc _
   subst hc
   refine ⟨?_, fun _ => rfl⟩
   unfold tA
   rw [hT, acc_set_seg _ l f e b1 b2, dif_pos he.1]
   have h2 := he.2
   rw [List.getElem?_eq_getElem (show f < l.length by omega)] at h2
   exact h2
  ·cases hc
 ·rw [if_neg (by rw [h]; decide), if_neg (by rw [h]; decide), if_neg (by rw [h]; decide), if_pos h] at hc
  rw [if_neg (by rw [h]; decide), if_pos h]
  obtain ⟨⟨r1, m⟩, ho, hc⟩ := Option.bind_eq_some_iff.1 hc
  obtain ⟨⟨r2, m2⟩, ho', hc⟩ := Option.bind_eq_some_iff.1 hc
  split at hc
  case isFalse => cases hc
  rename_i he
  have q1 : r2 = r := congrArg Prod.fst (Option.some.inj hc)
  dsimp only at he
  clear hc
  subst q1
  subst he
  obtain ⟨x1, x2, _⟩ := chk_facts ho
  obtain ⟨y1, y2, _⟩ := chk_facts ho'
  obtain ⟨A1, A2⟩ := ih _ (by omega) (by omega) n f m _ _ (by omega) ho
  obtain ⟨B1, B2⟩ := ih _ hb (by omega) n m m2 _ _ (by omega) ho'
  have hm : tA p K l (k : Int) f m2 = true := by
   unfold tA at A1 B1 ⊢
   rw [hT, acc_cat_seg _ _ l f m2 b1 b2, List.any_eq_true]
   refine ⟨m - f, List.mem_range.2 (by omega), ?_⟩
   rw [show f + (m - f) = m by omega, A1, B1]
   rfl
  refine ⟨hm, fun h1 => ?_⟩
  rw [hT] at h1
  have h1 : sumC (fun i => cnt l (getT (trs p K) (kid K k 0 : Nat)) f i * cnt l (getT (trs p K) (kid K k 1 : Nat)) i m2) (m2 - f + 1) f 0 = 1 := h1
  have a1 := (C _ (by omega) f m x1 (by omega)).1 A1
  have c1 := (C _ (by omega) m m2 y1 (by omega)).1 B1
  obtain ⟨o1, o2⟩ := sumC_one (fun i => nn _ _ f i m2) h1 (k := m) (by omega) (by omega) ((mul_one_iff (cnt_bd ..).1 (cnt_bd ..).1).2 ⟨a1, c1⟩)
  obtain ⟨o3, o4⟩ := mul_one_eq a1 c1 o1
  obtain ⟨i, i1, i2⟩ := cat_on hT b1 b2 hm
  have t1 := topF_bd (fun m => tA p K l (kid K k 0 : Nat) f m && tA p K l (kid K k 1 : Nat) m m2) f (m2 - f)
  have t2 := topF_ok (g := fun m => tA p K l (kid K k 0 : Nat) f m && tA p K l (kid K k 1 : Nat) m m2) (f := f) ⟨i, i1, i2⟩
  generalize topF _ f (m2 - f) = q at t1 t2 ⊢
  simp only [Bool.and_eq_true] at t2
  obtain rfl : q = m := o2 q (by omega) (by omega) ((mul_one_iff (cnt_bd ..).1 (cnt_bd ..).1).2 ⟨(C _ (by omega) f q (by omega) (by omega)).1 t2.1, (C _ (by omega) q m2 (by omega) (by omega)).1 t2.2⟩)
  have s1 := A2 o3
  have s2 := B2 o4
  simp only at s1 s2
  rw [s1, s2, List.append_assoc]
 ·rw [if_neg (by rw [h]; decide), if_neg (by rw [h]; decide), if_pos h] at hc
  rw [if_pos h]
  obtain ⟨⟨r1, m⟩, ho, hc⟩ := Option.bind_eq_some_iff.1 hc
  split at hc
  case isFalse => cases hc
  rename_i he
  have q1 : r1 = r := congrArg Prod.fst (Option.some.inj hc)
  dsimp only at he
  clear hc
  subst q1
  subst he
  have hor : acc (getT (trs p K) (k : Int)) (seg l f m) = (acc (getT (trs p K) (kid K k 0 : Nat)) (seg l f m) || acc (getT (trs p K) (kid K k 1 : Nat)) (seg l f m)) := by rw [hT]; rfl
  have hcn : cnt l (getT (trs p K) (k : Int)) f m = min (cnt l (getT (trs p K) (kid K k 0 : Nat)) f m + cnt l (getT (trs p K) (kid K k 1 : Nat)) f m) 1000000 := by rw [hT]; rfl
  have n1 := (cnt_bd l (getT (trs p K) (kid K k 0 : Nat)) f m).1
  have n2 := (cnt_bd l (getT (trs p K) (kid K k 1 : Nat)) f m).1
  have ca := C (kid K k 0) (by omega) f m b1 b2
  have cb := C (kid K k 1) (by omega) f m b1 b2
  by_cases h0 : (rest.head?).map (·.1) = some ((kid K k 0 : Nat) : Int)
  ·rw [if_pos h0] at ho
   obtain ⟨A1, A2⟩ := ih _ (by omega) (by omega) n f m _ _ (by omega) ho
   refine ⟨by unfold tA at A1 ⊢; rw [hor, A1]; rfl, fun h1 => ?_⟩
   rw [hcn] at h1
   rw [if_pos A1]
   have := ca.1 A1
   rw [A2 (by omega)]
  ·rw [if_neg h0] at ho
   obtain ⟨A1, A2⟩ := ih _ hb (by omega) n f m _ _ (by omega) ho
   refine ⟨by unfold tA at A1 ⊢; rw [hor, A1]; simp, fun h1 => ?_⟩
   rw [hcn] at h1
   have := cb.1 A1
   rw [if_neg (by rw [ca]; omega)]
   rw [A2 (by omega)]
 ·rw [if_neg (by rw [h]; decide), if_neg (by rw [h]; decide), if_neg (by rw [h]; decide), if_neg (by rw [h]; decide)] at hc
  rw [if_neg (by rw [h]; decide), if_neg (by rw [h]; decide), if_pos h]
  have key : ∀ (n1 f n2 : Nat) (s : List Sp), f ≤ e → e - f ≤ n2 → chkS (fun s f => chk p K l n s (kid K k 0) f) e n1 s f = some (r, e) → tA p K l (k : Int) f e = true ∧ (cnt l (getT (trs p K) (k : Int)) f e = 1 → s = starL (prs p K l n (kid K k 0)) (fun f m => tA p K l (kid K k 0 : Nat) f m && tA p K l (k : Int) m e) n2 f e ++ r) := by
   intro n1
   induction n1 with
   | zero => intro f n2 s _ _ h; cases h
   | succ n1 jh =>
    intro f n2 s g1 g2 hs
    unfold chkS at hs
    by_cases g : f < e
    ·rw [if_pos g] at hs
     obtain ⟨⟨r1, m⟩, ho, hs⟩ := Option.bind_eq_some_iff.1 hs
     dsimp only at hs
     split at hs
     ·cases hs
     rename_i hne
     obtain ⟨x1, x2, _⟩ := chk_facts ho
     obtain ⟨n2, rfl⟩ := Nat.exists_eq_succ_of_ne_zero (show n2 ≠ 0 by omega)
     by_cases hme : m ≤ e
     ·obtain ⟨A1, A2⟩ := ih _ ha (by omega) n f m _ _ (by omega) ho
      obtain ⟨B1, B2⟩ := jh m n2 r1 hme (by omega) hs
      have hm : tA p K l (k : Int) f e = true := by
       unfold tA at A1 B1 ⊢
       rw [hT] at B1 ⊢
       rw [acc_star_seg _ l f e g1 b2, Bool.or_eq_true, List.any_eq_true]
       refine .inr ⟨m - (f + 1), List.mem_range.2 (by omega), ?_⟩
       rw [show f + 1 + (m - (f + 1)) = m by omega, A1, B1]
       rfl
      refine ⟨hm, fun h1 => ?_⟩
      rw [cnt_at_star hT g] at h1
      have a1 := (C _ (by omega) f m (by omega) (by omega)).1 A1
      have c1 := (C k hk m e hme b2).1 B1
      obtain ⟨o1, o2⟩ := sumC_one (fun i => nn _ _ f i e) h1 (k := m) (by omega) (by omega) ((mul_one_iff (cnt_bd ..).1 (cnt_bd ..).1).2 ⟨a1, c1⟩)
      obtain ⟨o3, o4⟩ := mul_one_eq a1 c1 o1
      obtain ⟨i, i1, i0, i2⟩ := star_on hT g b2 hm
      have t1 := topF_bd (fun m => tA p K l (kid K k 0 : Nat) f m && tA p K l (k : Int) m e) f (e - f)
      have t2 := topF_ok (g := fun m => tA p K l (kid K k 0 : Nat) f m && tA p K l (k : Int) m e) (f := f) ⟨i, i1, i2⟩
      have t3 := topF_ge (g := fun m => tA p K l (kid K k 0 : Nat) f m && tA p K l (k : Int) m e) i1 i2
      unfold starL
      rw [if_pos g]
      generalize topF _ f (e - f) = q at t1 t2 t3 ⊢
      simp only [Bool.and_eq_true] at t2
      obtain rfl : q = m := o2 q (by omega) (by omega) ((mul_one_iff (cnt_bd ..).1 (cnt_bd ..).1).2 ⟨(C _ (by omega) f q (by omega) (by omega)).1 t2.1, (C k hk q e (by omega) b2).1 t2.2⟩)
      rw [A2 o3, B2 o4, List.append_assoc]
     ·-- past the end: nothing more is taken off
      cases n1 with
      | zero => cases hs
      | succ n1 => unfold chkS at hs; rw [if_neg (by omega), if_neg (by omega)] at hs; cases hs
    ·rw [if_neg g] at hs
     obtain rfl : f = e := by omega
     rw [if_pos rfl] at hs
     injection hs with hs
     injection hs with hs _
     subst hs
     refine ⟨star_nil hT b2, fun _ => ?_⟩
     cases n2 with
     | zero => rfl
     | succ n2 => unfold starL; rw [if_neg (by omega)]; rfl
  obtain ⟨x, y⟩ := key _ f (e - f) rest b1 (Nat.le_refl _) hc
  exact ⟨x, fun h1 => by rw [y h1]⟩
/-- The root stands at the front alone. -/
theorem prs_below (hK : Kids p K p.length) (hpl : ∀ u ∈ p, u.1 ≠ 5 ∧ u.1 ≠ 7) : ∀ (k : Nat), k < p.length → ∀ (n f t : Nat), ∀ u ∈ prs p K l n k f t, u.1 ≤ (k : Int) := by
 intro k
 induction k using Nat.strongRecOn with
 | ind k ih =>
 intro hk n f t u hu
 cases n with
 | zero => cases hu
 | succ n =>
 rw [prs_eq hk] at hu
 rcases List.mem_cons.1 hu with rfl | hu
 ·exact Int.le_refl _
 have st : ∀ (a : Nat) (q : Nat → Nat → Bool), a < k → ∀ (m f t : Nat), u ∈ starL (prs p K l n a) q m f t → u.1 ≤ (a : Int) := by
  intro a q ha m
  induction m with
  | zero => intro f t h; cases h
  | succ m jh =>
   intro f t h
   unfold starL at h
   split at h
   ·rcases List.mem_append.1 h with h | h
    ·exact ih a ha (by omega) n _ _ u h
    ·exact jh _ _ h
   ·cases h
 rcases kid_cases hK hpl hk with ⟨h, hT⟩ | ⟨h, hT⟩ | ⟨h, ha, hb, hT⟩ | ⟨h, ha, hb, hT⟩ | ⟨h, ha, hT⟩
 ·rw [if_neg (by rw [h]; decide), if_neg (by rw [h]; decide), if_neg (by rw [h]; decide)] at hu; cases hu
 ·rw [if_neg (by rw [h]; decide), if_neg (by rw [h]; decide), if_neg (by rw [h]; decide)] at hu; cases hu
 ·rw [if_neg (by rw [h]; decide), if_pos h] at hu
  rcases List.mem_append.1 hu with hu | hu
  ·have := ih _ (by omega) (by omega) n _ _ u hu; omega
  ·have := ih _ hb (by omega) n _ _ u hu; omega
 ·rw [if_pos h] at hu
  split at hu
  ·have := ih _ (by omega) (by omega) n _ _ u hu; omega
  ·have := ih _ hb (by omega) n _ _ u hu; omega
 ·rw [if_neg (by rw [h]; decide), if_neg (by rw [h]; decide), if_pos h] at hu
  have := st _ _ ha _ _ _ hu; omega
theorem prs_root (hK : Kids p K p.length) (hpl : ∀ u ∈ p, u.1 ≠ 5 ∧ u.1 ≠ 7) {k : Nat} (hk : k < p.length) (n f t : Nat) : (prs p K l (n + 1) k f t).filter (fun u => u.1 == (k : Int)) = [((k : Int), (f : Int), (t : Int))] := by
 have key : ∀ u ∈ (prs p K l (n + 1) k f t).tail, u.1 < (k : Int) := by
  intro u hu
  rw [prs_eq hk, List.tail_cons] at hu
  have st : ∀ (a : Nat) (q : Nat → Nat → Bool), a < k → ∀ (m f t : Nat), u ∈ starL (prs p K l n a) q m f t → u.1 ≤ (a : Int) := by
   intro a q ha m
   induction m with
   | zero => intro f t h; cases h
   | succ m jh =>
    intro f t h
    unfold starL at h
    split at h
    ·rcases List.mem_append.1 h with h | h
     ·exact prs_below hK hpl a (by omega) n _ _ u h
     ·exact jh _ _ h
    ·cases h
  rcases kid_cases hK hpl hk with ⟨h, hT⟩ | ⟨h, hT⟩ | ⟨h, ha, hb, hT⟩ | ⟨h, ha, hb, hT⟩ | ⟨h, ha, hT⟩
  ·rw [if_neg (by rw [h]; decide), if_neg (by rw [h]; decide), if_neg (by rw [h]; decide)] at hu; cases hu
  ·rw [if_neg (by rw [h]; decide), if_neg (by rw [h]; decide), if_neg (by rw [h]; decide)] at hu; cases hu
  ·rw [if_neg (by rw [h]; decide), if_pos h] at hu
   rcases List.mem_append.1 hu with hu | hu
   ·have := prs_below hK hpl _ (by omega) n _ _ u hu; omega
   ·have := prs_below hK hpl _ (by omega) n _ _ u hu; omega
  ·rw [if_pos h] at hu
   split at hu
   ·have := prs_below hK hpl _ (by omega) n _ _ u hu; omega
   ·have := prs_below hK hpl _ (by omega) n _ _ u hu; omega
  ·rw [if_neg (by rw [h]; decide), if_neg (by rw [h]; decide), if_pos h] at hu
   have := st _ _ ha _ _ _ hu; omega
 obtain ⟨r, hr⟩ := prs_head (p := p) (K := K) (l := l) (n := n + 1) (k := k) (f := f) (t := t) (by omega)
 rw [hr] at key ⊢
 rw [List.filter_cons_of_pos (by simp), List.filter_eq_nil_iff.2 fun u hu => by
  have := key u hu
  simp only [beq_iff_eq]
  omega]
end
def fst0 (s : List Sp) : Int × Int × Int × Bool := match s with
 | [] => (0, 0, 0, false)
 | u :: _ => (u.1, u.2.1, u.2.2, true)
section
variable {p : List Nd} {K : List (List Int)} {l : List Int} {tb : List (List (List Bool))}
theorem p_first (s : List Sp) : z1r.f p K l tb s = some (fst0 s) := by
 unfold z1r.f
 cases s with
 | nil => rfl
 | cons u rest =>
  have c0 : ((((u :: rest).length : Nat) : Int) == 0) = false := by simp; omega
  rw [c0]
  rfl
theorem p_has2 (a b x : Int) : z1t.f [a, b] x = some (x == a || x == b) := by
 have r0 : rd? [a, b] 0 = some a := rfl
 have r1 : rd? [a, b] (IntKind.i64.wrap (0 + 1)) = some b := by rw [yv (by omega) (by omega)]; rfl
 have l0 : decide ((0 : Int) < (([a, b].length : Nat) : Int)) = true := by simp
 have l1 : decide (IntKind.i64.wrap (0 + 1) < (([a, b].length : Nat) : Int)) = true := by rw [yv (by omega) (by omega)]; simp
 have l2 : decide (IntKind.i64.wrap (IntKind.i64.wrap (0 + 1) + 1) < (([a, b].length : Nat) : Int)) = false := by rw [yv (n := 0 + 1) (by omega) (by omega), yv (by omega) (by omega)]; simp
 unfold z1t.f z1s.f
 rw [show ((([a, b].length : Nat) : Int) - 0).toNat + 2 = 4 from rfl, z1s.l1, l0, if_pos rfl, r0]
 simp only [Option.bind_some]
 by_cases h1 : x = a
 ·have : (x == a) = true := by simpa using h1
  simp [this]
 ·have : (x == a) = false := by simpa using h1
  rw [this, z1s.l1, l1, if_pos rfl, r1]
  simp only [Option.bind_some, Bool.false_eq_true, if_false]
  by_cases h2 : x = b
  ·have : (x == b) = true := by simpa using h2
   rw [this, yv (n := 0 + 1) (by omega) (by omega)]
   rfl
  ·have : (x == b) = false := by simpa using h2
   rw [this, z1s.l1, l2]
   rfl
theorem p_implStar {self : List Nd → List (List Int) → List Int → List (List (List Bool)) → List Sp → Int → Int → Int → Option (Bool × List Sp)} {C : List Sp → Nat → Option (List Sp × Nat)} {ks : List Int} {a t : Nat} (h0 : rd? ks 0 = some (a : Int)) (hl : l.length ≤ 1000) (ht : t ≤ l.length) (hC : ∀ s f t, f ≤ t → t ≤ l.length → ImplAns (C s f) t (self p K l tb s (a : Int) f t))
  (hC2 : ∀ s f r e, C s f = some (r, e) → f ≤ e ∧ ∃ u rest, s = u :: rest ∧ u.2.2 = (e : Int)) : ∀ (n kf f : Nat) (s : List Sp), f ≤ t → t - f < n → t - f < kf →
  match chkS C t n s f with
  | some (r, _) => z1u.l1 p K l tb t self ks kf f s = some (.go r)
  | none => ∃ r', z1u.l1 p K l tb t self ks kf f s = some (.ret (false, r')) := by
 intro n
 induction n with
 | zero => intro kf f s _ h; omega
 | succ n ih =>
  intro kf f s hf hn hk
  obtain ⟨kf, rfl⟩ := Nat.exists_eq_succ_of_ne_zero (show kf ≠ 0 by omega)
  unfold chkS
  by_cases hft : f < t
  ·have c0 : decide ((f : Int) < (t : Int)) = true := by simpa using hft
   rw [if_pos hft, z1u.l1, if_pos c0, p_first]
   simp only [Option.bind_some]
   cases s with
   | nil =>
    have hc : C [] f = none := by
     cases hc : C [] f with
     | none => rfl
     | some o =>
      obtain ⟨_, u, rest, h1, _⟩ := hC2 [] f o.1 o.2 hc
      cases h1
    rw [hc]
    exact ⟨_, rfl⟩
   | cons u rest =>
    simp only [fst0, Bool.not_true, Bool.false_eq_true, if_false, p_inRange, Option.bind_some]
    rw [y03 f (by omega)]
    by_cases hr : ((f + 1 : Nat) : Int) ≤ u.2.2 ∧ u.2.2 ≤ (t : Int)
    ·obtain ⟨τ, hτ⟩ := Int.eq_ofNat_of_zero_le (show 0 ≤ u.2.2 by omega)
     have x1 : decide (((f + 1 : Nat) : Int) ≤ (τ : Int)) = true := by simp; omega
     have x2 : decide ((τ : Int) ≤ (t : Int)) = true := by simp; omega
     have hA := hC (u :: rest) f τ (by omega) (by omega)
     simp only [hτ, x1, x2, Bool.and_self, Bool.not_true, Bool.false_eq_true, if_false, h0, Option.bind_some]
     unfold ImplAns at hA
     cases hc : C (u :: rest) f with
     | none =>
      rw [hc] at hA
      obtain ⟨r', hA⟩ := hA
      rw [hA]
      exact ⟨_, rfl⟩
     | some o =>
      obtain ⟨r, e⟩ := o
      obtain ⟨g1, u', rest', g2, g3⟩ := hC2 _ _ _ _ hc
      injection g2 with g2 _
      subst g2
      have he : e = τ := by omega
      subst he
      rw [hc] at hA
      simp only [if_true] at hA
      rw [hA]
      simp only [Option.bind_some, Bool.not_true, Bool.false_eq_true, if_false]
      rw [if_neg (show ¬ e = f by omega)]
      exact ih kf e r (by omega) (by omega) (by omega)
    ·have x1 : (decide (((f + 1 : Nat) : Int) ≤ u.2.2) && decide (u.2.2 ≤ (t : Int))) = false := by
      rw [Bool.and_eq_false_iff]
      simp only [decide_eq_false_iff_not]
      omega
     simp only [x1, Bool.not_false, if_true, Option.bind_some]
     cases hc : C (u :: rest) f with
     | none => exact ⟨_, rfl⟩
     | some o =>
      obtain ⟨r, e⟩ := o
      obtain ⟨g1, u', rest', g2, g3⟩ := hC2 _ _ _ _ hc
      injection g2 with g2 _
      subst g2
      simp only [Option.bind_some]
      by_cases he : e = f
      ·rw [if_pos he]
       exact ⟨_, rfl⟩
      ·rw [if_neg he]
       have : chkS C t n r e = none := by
        cases n with
        | zero => rfl
        | succ n =>
         unfold chkS
         rw [if_neg (by omega), if_neg (by omega)]
       rw [this]
       exact ⟨_, rfl⟩
  ·have c0 : decide ((f : Int) < (t : Int)) = false := by simpa using hft
   rw [if_neg hft, if_pos (show f = t by omega), z1u.l1, c0]
   rfl
theorem ImplAns.of {o : Option (List Sp × Nat)} {t : Nat} {x y : Option (Bool × List Sp)} (h : ImplAns o t x) (e : x = y) : ImplAns o t y := e ▸ h
theorem ImplAns.no {o : Option (List Sp × Nat)} {t : Nat} {r : List Sp} (h : ∀ r e, o = some (r, e) → e ≠ t) : ImplAns o t (some (false, r)) := by
 cases o with
 | none => exact ⟨_, rfl⟩
 | some o =>
  obtain ⟨r', e⟩ := o
  simp only [ImplAns, if_neg (h r' e rfl)]
  exact ⟨_, rfl⟩
theorem p_chkImpl (hp : p.length ≤ 1000) (hset : ∀ u ∈ p, u.2.length ≤ 1000 ∧ u.2.length % 2 = 0) (hl : l.length ≤ 1000) (hK : Kids p K p.length) (hpl : ∀ u ∈ p, u.1 ≠ 5 ∧ u.1 ≠ 7) : ∀ (n k f t : Nat) (s : List Sp), k < n → k < p.length → f ≤ t → t ≤ l.length → ImplAns (chk p K l n s k f) t (z1u.r n p K l tb s (k : Int) (f : Int) (t : Int)) := by
 intro n
 induction n with
 | zero => intro k f t s h; omega
 | succ n ih =>
  intro k f t s hkn hk hft htl
  have rp : rd? p (k : Int) = some p[k] := rd?_at hk
  have hne := hpl _ (List.getElem_mem hk)
  obtain ⟨ks, hks, k0, k1, k2, k3⟩ := hK.2 k hk hk
  have rk : rd? K (k : Int) = some ks := rd?_get' hks
  rw [z1u.r, z1u.b, p_first]
  simp only [Option.bind_some]
  cases s with
  | nil => exact ⟨_, rfl⟩
  | cons u rest =>
   simp only [fst0, Bool.not_true, Bool.false_eq_true, if_false, Option.bind_some]
   by_cases hc : u.1 = (k : Int) ∧ u.2.1 = (f : Int) ∧ u.2.2 = (t : Int)
   case neg =>
    have x : (u.1 == (k : Int) && (u.2.1 == (f : Int) && (u.2.2 == (t : Int) && true))) = false := by
     rw [Bool.eq_false_iff]
     intro h
     simp only [Bool.and_eq_true, beq_iff_eq, and_true] at h
     exact hc h
    simp only [x, Bool.not_false, if_true]
    refine ImplAns.no fun r e he hee => ?_
    obtain ⟨_, _, u', rest', g1, g2, g3, g4⟩ := chk_facts he
    injection g1 with g1 _
    subst g1
    exact hc ⟨g2, g4, by rw [g3, hee]⟩
   obtain ⟨c1, c2, c3⟩ := hc
   have x : (u.1 == (k : Int) && (u.2.1 == (f : Int) && (u.2.2 == (t : Int) && true))) = true := by simp [c1, c2, c3]
   rw [chk_eq hk, if_pos ⟨c1, c2, by rw [c3]; omega, by rw [c3]; omega⟩]
   simp only [x, Bool.not_true, Bool.false_eq_true, if_false]
   simp only [cut_tail, Option.bind_some, rk, rp, c3, Int.toNat_natCast]
   rcases ar_cases k3 with h | h | h | h | h | h | h
   ·simp only [h, beq_self_eq_true, if_true]
    by_cases he : f = t
    ·subst he
     simp [ImplAns]
    ·rw [if_neg he]
     have : ((f : Int) == (t : Int)) = false := by simp; omega
     rw [this]
     exact ⟨_, rfl⟩
   ·have b1 : ((2 : Int) == 1) = false := by decide
    have n1 : ¬ ((2 : Int) = 1) := by decide
    simp only [h, b1, n1, Bool.false_eq_true, if_false, beq_self_eq_true, if_true]
    have hsk := hset _ (List.getElem_mem hk)
    rw [y03 f (by omega)]
    by_cases he : t = f + 1
    ·subst he
     have d1 : (((f + 1 : Nat) : Int) == ((f + 1 : Nat) : Int)) = true := by simp
     simp only [d1, if_true, rd?_at (show f < l.length by omega), Option.bind_some]
     rw [p_implIn _ _ (by omega), List.getElem?_eq_getElem (show f < l.length by omega), Option.getD_some]
     cases inS p[k].2 l[f]
     ·rw [if_neg (by simp)]; exact ⟨_, rfl⟩
     ·rw [if_pos (by simp)]; simp [ImplAns]
    ·have d1 : ((t : Int) == ((f + 1 : Nat) : Int)) = false := by simp; omega
     simp only [d1, Bool.false_eq_true, if_false]
     rw [if_neg (fun h => he h.1)]
     exact ⟨_, rfl⟩
   ·-- one behind the other
    have b1 : ((3 : Int) == 1) = false := by decide
    have b2 : ((3 : Int) == 2) = false := by decide
    have b4 : ((3 : Int) == 4) = false := by decide
    have n1 : ¬ ((3 : Int) = 1) := by decide
    have n2 : ¬ ((3 : Int) = 2) := by decide
    have n4 : ¬ ((3 : Int) = 4) := by decide
    obtain ⟨g, e1, g0, g1, g2⟩ := k2 (by rw [h]; rfl)
    obtain ⟨g, rfl⟩ := Int.eq_ofNat_of_zero_le g0
    have e2 : ((k : Int) - 1) = ((k - 1 : Nat) : Int) := by omega
    rw [e2] at e1
    have q0 : kid K k 0 = g := by unfold kid; rw [hks, e1]; simp
    have q1 : kid K k 1 = k - 1 := by unfold kid; rw [hks, e1]; simp
    have r0 : rd? ks 0 = some (g : Int) := by rw [e1]; rfl
    have r1 : rd? ks 1 = some ((k - 1 : Nat) : Int) := by rw [e1]; rfl
    simp only [h, b1, b2, b4, n1, n2, n4, Bool.false_eq_true, if_false, beq_self_eq_true, if_true, q0, q1, p_first, Option.bind_some]
    cases rest with
    | nil =>
     have : chk p K l n [] g f = none := by cases n <;> rfl
     rw [this]
     exact ⟨_, rfl⟩
    | cons v vs =>
     simp only [fst0, if_true, p_inRange, Option.bind_some]
     by_cases hr : (f : Int) ≤ v.2.2 ∧ v.2.2 ≤ (t : Int)
     ·obtain ⟨m, hm⟩ := Int.eq_ofNat_of_zero_le (show 0 ≤ v.2.2 by omega)
      have x1 : decide ((f : Int) ≤ (m : Int)) = true := by simp; omega
      have x2 : decide ((m : Int) ≤ (t : Int)) = true := by simp; omega
      have A := ih g f m (v :: vs) (by omega) (by omega) (by omega) (by omega)
      simp only [hm, x1, x2, Bool.and_self, if_true, r0, r1, Option.bind_some]
      unfold ImplAns at A
      cases ha : chk p K l n (v :: vs) g f with
      | none =>
       rw [ha] at A
       obtain ⟨r', A⟩ := A
       rw [A]
       exact ⟨_, rfl⟩
      | some o =>
       obtain ⟨r, e⟩ := o
       obtain ⟨_, _, v', vs', y1, y2, y3, y4⟩ := chk_facts ha
       injection y1 with y1 _
       subst y1
       have he : e = m := by omega
       subst he
       rw [ha] at A
       simp only [if_true] at A
       rw [A]
       simp only [Option.bind_some, if_true]
       have B := ih (k - 1) e t r (by omega) (by omega) (by omega) htl
       unfold ImplAns at B
       cases hb : chk p K l n r (k - 1) e with
       | none =>
        rw [hb] at B
        obtain ⟨r', B⟩ := B
        rw [B]
        exact ⟨_, rfl⟩
       | some o =>
        obtain ⟨r2, e2⟩ := o
        rw [hb] at B
        simp only [Option.bind_some]
        by_cases h3 : e2 = t
        ·subst h3
         simp only [if_true] at B
         rw [B, if_pos rfl]
         simp [ImplAns]
        ·simp only [h3, if_false] at B
         obtain ⟨r', B⟩ := B
         rw [B, if_neg h3]
         exact ⟨_, rfl⟩
     ·have x1 : (decide ((f : Int) ≤ v.2.2) && decide (v.2.2 ≤ (t : Int))) = false := by
       rw [Bool.and_eq_false_iff]
       simp only [decide_eq_false_iff_not]
       omega
      simp only [x1, Bool.false_eq_true, if_false]
      refine ImplAns.no fun r e he hee => ?_
      obtain ⟨o, ho, he⟩ := Option.bind_eq_some_iff.1 he
      obtain ⟨o', ho', he⟩ := Option.bind_eq_some_iff.1 he
      obtain ⟨z1, z2, v', vs', y1, y2, y3, y4⟩ := chk_facts (r := o.1) (e := o.2) ho
      injection y1 with y1 _
      subst y1
      have z3 := chk_facts (r := o'.1) (e := o'.2) ho'
      split at he
      ·rename_i h5
       exact hr ⟨by omega, by omega⟩
      ·cases he
   ·-- one or the other
    have b1 : ((4 : Int) == 1) = false := by decide
    have b2 : ((4 : Int) == 2) = false := by decide
    have n1 : ¬ ((4 : Int) = 1) := by decide
    have n2 : ¬ ((4 : Int) = 2) := by decide
    obtain ⟨g, e1, g0, g1, g2⟩ := k2 (by rw [h]; rfl)
    obtain ⟨g, rfl⟩ := Int.eq_ofNat_of_zero_le g0
    have e2 : ((k : Int) - 1) = ((k - 1 : Nat) : Int) := by omega
    rw [e2] at e1
    have q0 : kid K k 0 = g := by unfold kid; rw [hks, e1]; simp
    have q1 : kid K k 1 = k - 1 := by unfold kid; rw [hks, e1]; simp
    simp only [h, b1, b2, n1, n2, Bool.false_eq_true, if_false, beq_self_eq_true, if_true, q0, q1, p_first, Option.bind_some]
    have fin : ∀ (c : Nat) (s : List Sp), c < k → ImplAns ((chk p K l n s c f).bind fun o => if o.2 = t then some o else none) t ((z1u.r n p K l tb s (c : Int) (f : Int) (t : Int)).bind fun u53 => some (u53.1, u53.2)) := fun c s hc => by
     have A := ih c f t s (by omega) (by omega) hft htl
     unfold ImplAns at A
     cases ha : chk p K l n s c f with
     | none =>
      rw [ha] at A
      obtain ⟨r', A⟩ := A
      rw [A]
      exact ⟨_, rfl⟩
     | some o =>
      obtain ⟨r, e⟩ := o
      rw [ha] at A
      simp only [Option.bind_some]
      by_cases h3 : e = t
      ·subst h3
       simp only [if_true] at A
       rw [A, if_pos rfl]
       simp [ImplAns]
      ·simp only [h3, if_false] at A
       obtain ⟨r', A⟩ := A
       rw [A, if_neg h3]
       exact ⟨_, rfl⟩
    cases rest with
    | nil =>
     have : ∀ c, chk p K l n [] c f = none := fun c => by cases n <;> rfl
     rw [this]
     exact ⟨_, rfl⟩
    | cons v vs =>
     simp only [fst0, if_true, List.head?_cons, Option.map_some, Option.some.injEq]
     rw [e1, p_has2]
     simp only [Option.bind_some]
     by_cases h5 : v.1 = (g : Int)
     ·have x1 : (v.1 == (g : Int) || v.1 == ((k - 1 : Nat) : Int)) = true := by simp [h5]
      rw [if_pos h5, x1, if_pos rfl, h5]
      exact fin g (v :: vs) (by omega)
     ·by_cases h6 : v.1 = ((k - 1 : Nat) : Int)
      ·have x1 : (v.1 == (g : Int) || v.1 == ((k - 1 : Nat) : Int)) = true := by simp [h6]
       rw [if_neg h5, x1, if_pos rfl, h6]
       exact fin (k - 1) (v :: vs) (by omega)
      ·have x1 : (v.1 == (g : Int) || v.1 == ((k - 1 : Nat) : Int)) = false := by
        rw [Bool.or_eq_false_iff]
        exact ⟨by simpa using h5, by simpa using h6⟩
       rw [if_neg h5, x1]
       refine ImplAns.no fun r e he hee => ?_
       obtain ⟨o, ho, he⟩ := Option.bind_eq_some_iff.1 he
       obtain ⟨z1, z2, v', vs', y1, y2, y3, y4⟩ := chk_facts (r := o.1) (e := o.2) ho
       injection y1 with y1 _
       subst y1
       exact h6 y2
   ·exact absurd h hne.1
   ·-- again and again
    have b1 : ((6 : Int) == 1) = false := by decide
    have b2 : ((6 : Int) == 2) = false := by decide
    have b3 : ((6 : Int) == 3) = false := by decide
    have b4 : ((6 : Int) == 4) = false := by decide
    have n1 : ¬ ((6 : Int) = 1) := by decide
    have n2 : ¬ ((6 : Int) = 2) := by decide
    have n3 : ¬ ((6 : Int) = 3) := by decide
    have n4 : ¬ ((6 : Int) = 4) := by decide
    obtain ⟨e1, g1⟩ := k1 (by rw [h]; rfl)
    have e2 : ((k : Int) - 1) = ((k - 1 : Nat) : Int) := by omega
    rw [e2] at e1
    have q0 : kid K k 0 = k - 1 := by unfold kid; rw [hks, e1]; simp
    have r0 : rd? ks 0 = some ((k - 1 : Nat) : Int) := by rw [e1]; rfl
    simp only [h, b1, b2, b3, b4, n1, n2, n3, n4, Bool.false_eq_true, if_false, q0]
    have S := p_implStar (p := p) (K := K) (l := l) (tb := tb) (self := z1u.r n) (C := fun s f => chk p K l n s (k - 1) f) (t := t) r0 hl htl (fun s f t h1 h2 => ih (k - 1) f t s (by omega) (by omega) h1 h2) (fun s f r e he => by
     obtain ⟨z1, _, u, rest, y1, _, y3, _⟩ := chk_facts he
     exact ⟨z1, u, rest, y1, y3⟩) (t - f + 1) (((t : Int) - (f : Int)).toNat + 2) f rest hft (by omega) (by omega)
    cases hs : chkS (fun s f => chk p K l n s (k - 1) f) t (t - f + 1) rest f with
    | none =>
     rw [hs] at S
     obtain ⟨r', S⟩ := S
     rw [S]
     exact ⟨_, rfl⟩
    | some o =>
     obtain ⟨r, e⟩ := o
     have he := chkS_end hs
     subst he
     rw [hs] at S
     have S : z1u.l1 _ _ _ _ _ _ _ _ _ _ = some (.go r) := S
     rw [S]
     simp [ImplAns]
   ·exact absurd h hne.2
end
def RowsC (n : Nat) (v : Nat → Nat → Int) (i j : Nat) (rows : List (List Int)) : Prop := rows.length = n + 1 ∧ ∀ g, i ≤ g → g ≤ n → ∃ row, rows[g]? = some row ∧ row.length = n + 1 ∧ ∀ t, g ≤ t → t ≤ n → (i < g ∨ t < j) → row[t]? = some (v g t)
def TbC (n : Nat) (V : Nat → Nat → Nat → Int) (m : Nat) (tb : List (List (List Int))) : Prop := ∀ c, c < m → ∃ rows, tb[c]? = some rows ∧ RowsC n (V c) 0 (n + 1) rows
theorem RowsC.rd {n : Nat} {v : Nat → Nat → Int} {i j : Nat} {rows : List (List Int)} (h : RowsC n v i j rows) {f t : Nat} (hi : i ≤ f) (hf : f ≤ t) (ht : t ≤ n) (ho : i < f ∨ t < j) : ∃ row, rd? rows (f : Int) = some row ∧ rd? row (t : Int) = some (v f t) := by
 obtain ⟨row, h1, _, h3⟩ := h.2 f hi (by omega)
 exact ⟨row, rd?_get' h1, rd?_get' (h3 t hf ht ho)⟩
theorem RowsC.last {n : Nat} {v : Nat → Nat → Int} {f : Nat} {rows : List (List Int)} (h : RowsC n v (f + 1) (n + 1) rows) (row : List Int) (hr : row.length = n + 1) (hf : f ≤ n) : RowsC n v f f (rows.set f row) := by
 refine ⟨by simpa using h.1, fun g h1 h2 => ?_⟩
 by_cases hg : f = g
 ·subst hg
  exact ⟨row, List.getElem?_set_self (by rw [h.1]; omega), hr, fun t a b c => by omega⟩
 ·obtain ⟨r, a, b, c⟩ := h.2 g (by omega) h2
  exact ⟨r, by rw [List.getElem?_set_ne hg]; exact a, b, fun t d e _ => c t d e (by omega)⟩
theorem p_cCat {l : List Int} {A B : RT} {ks : List Int} {tb ra rb : List _} {a b : Nat} {f t : Nat} (h0 : rd? ks 0 = some (a : Int)) (h1 : rd? ks 1 = some (b : Int)) (ha : rd? tb (a : Int) = some ra) (hb : rd? tb (b : Int) = some rb) (hra : RowsC l.length (cnt l A) 0 (l.length + 1) ra) (hrb : RowsC l.length (cnt l B) 0 (l.length + 1) rb) (hl : l.length ≤ 1000) (ht : t ≤ l.length) : ∀ (n i k : Nat) (s : Int), f ≤ i → i + n = t + 1 → n < k → 0 ≤ s → s ≤ 1000000 →
  z1j.l1 tb ks f t k s (i : Int) = some (sumC (fun m => cnt l A f m * cnt l B m t) n i s) := by
 intro n
 induction n with
 | zero =>
  intro i k s hf hi hk _ _
  obtain ⟨k, rfl⟩ := Nat.exists_eq_succ_of_ne_zero (show k ≠ 0 by omega)
  rw [z1j.l1, if_neg (by simp; omega)]
  rfl
 | succ n ih =>
  intro i k s hf hi hk hs hs1
  obtain ⟨k, rfl⟩ := Nat.exists_eq_succ_of_ne_zero (show k ≠ 0 by omega)
  obtain ⟨r1, e1, e2⟩ := hra.rd (f := f) (t := i) (by omega) hf (by omega) (by omega)
  obtain ⟨r2, e3, e4⟩ := hrb.rd (f := i) (t := t) (by omega) (by omega) ht (by omega)
  have b1 := cnt_bd l A f i
  have b2 := cnt_bd l B i t
  rw [z1j.l1, if_pos (by simp; omega), h0]
  simp only [Option.bind_some, ha, e1, e2, h1, hb, e3, e4]
  rw [stepC hs hs1 b1.1 b1.2 b2.1 b2.2, y03 i (by omega)]
  have := Int.mul_nonneg b1.1 b2.1
  exact ih (i + 1) k _ (by omega) (by omega) (by omega) (by omega) (by omega)
theorem p_cStar {l : List Int} {A : RT} {ks : List Int} {tb ra rc : List _} {a c : Nat} {f t : Nat} (h0 : rd? ks 0 = some (a : Int)) (ha : rd? tb (a : Int) = some ra) (hc : rd? tb (c : Int) = some rc) (hra : RowsC l.length (cnt l A) 0 (l.length + 1) ra) (hrc : RowsC l.length (cnt l (.star A)) f t rc) (hl : l.length ≤ 1000) (ht : t ≤ l.length) : ∀ (n i k : Nat) (s : Int), f < i → i + n = t + 1 → n < k → 0 ≤ s → s ≤ 1000000 →
  z1j.l2 tb ks c f t k s (i : Int) = some (sumC (fun m => cnt l A f m * cnt l (.star A) m t) n i s) := by
 intro n
 induction n with
 | zero =>
  intro i k s hf hi hk _ _
  obtain ⟨k, rfl⟩ := Nat.exists_eq_succ_of_ne_zero (show k ≠ 0 by omega)
  rw [z1j.l2, if_neg (by simp; omega)]
  rfl
 | succ n ih =>
  intro i k s hf hi hk hs hs1
  obtain ⟨k, rfl⟩ := Nat.exists_eq_succ_of_ne_zero (show k ≠ 0 by omega)
  obtain ⟨r1, e1, e2⟩ := hra.rd (f := f) (t := i) (by omega) (by omega) (by omega) (by omega)
  obtain ⟨r2, e3, e4⟩ := hrc.rd (f := i) (t := t) (by omega) (by omega) ht (by omega)
  have b1 := cnt_bd l A f i
  have b2 := cnt_bd l (.star A) i t
  rw [z1j.l2, if_pos (by simp; omega), h0]
  simp only [Option.bind_some, ha, e1, e2, hc, e3, e4]
  rw [stepC hs hs1 b1.1 b1.2 b2.1 b2.2, y03 i (by omega)]
  have := Int.mul_nonneg b1.1 b2.1
  exact ih (i + 1) k _ (by omega) (by omega) (by omega) (by omega) (by omega)
theorem p_countOf {p : List Nd} {K : List (List Int)} {l : List Int} {tb : List (List (List Int))} (hp : p.length ≤ 1000) (hset : ∀ u ∈ p, u.2.length ≤ 1000) (hl : l.length ≤ 1000) (hK : Kids p K p.length) {k : Nat} (hk : k < p.length) (hpl : p[k].1 ≠ 5 ∧ p[k].1 ≠ 7) {ks : List Int} (hks : K[k]? = some ks) (htb : TbC l.length (valC l p K) k tb) {rows : List (List Int)} (hr : tb[k]? = some rows) {f t : Nat} (hV : RowsC l.length (valC l p K k) f t rows) (hf : f ≤ t) (ht : t ≤ l.length) :
  ∃ v, z1j.f tb ks (k : Int) p[k].1 p[k].2 l (f : Int) (t : Int) = some v ∧ min v 1000000 = valC l p K k f t := by
 obtain ⟨ks', hks', hko⟩ := hK.2 k hk hk
 obtain rfl : ks' = ks := Option.some.inj (hks'.symm.trans hks)
 obtain ⟨k0, k1, k2, k3⟩ := hko
 unfold z1j.f valC
 have hsk := hset _ (List.getElem_mem hk)
 rcases ar_cases k3 with h | h | h | h | h | h | h
 ·have ht' := trs_at hK hk hks (by rw [k0 (by rw [h]; rfl)]; simp)
  have hm : mkT p[k] (ks'.map (getT (trs p K))) = .nil := by unfold mkT; simp [h]
  rw [ht', hm]
  simp only [h]
  refine ⟨if f = t then 1 else 0, ?_, ?_⟩
  ·by_cases hft : f = t
   ·subst hft; simp
   ·have : ((f : Int) == (t : Int)) = false := by simp; omega
    simp [this, hft]
  ·unfold cnt
   split <;> rfl
 ·have ht' := trs_at hK hk hks (by rw [k0 (by rw [h]; rfl)]; simp)
  have hm : mkT p[k] (ks'.map (getT (trs p K))) = .set p[k].2 := by unfold mkT; rw [if_neg (by omega), if_pos h]
  rw [ht', hm]
  simp only [h]
  have c1 : ((2 : Int) == 1) = false := by decide
  have c2 : ((2 : Int) == 2) = true := by decide
  simp only [c1, c2, Bool.false_eq_true, if_false, if_true]
  rw [y03 f (by omega)]
  by_cases hft : t = f + 1
  ·subst hft
   rw [if_pos (by simp), rd?_at (show f < l.length by omega)]
   simp only [Option.bind_some]
   rw [p_implIn _ _ (by omega)]
   refine ⟨_, rfl, ?_⟩
   unfold cnt
   rw [List.getElem?_eq_getElem (show f < l.length by omega), Option.getD_some]
   cases inS p[k].2 l[f] <;> simp <;> decide
  ·rw [if_neg (by simp; omega)]
   refine ⟨0, rfl, ?_⟩
   unfold cnt
   rw [if_neg (fun h => hft h.1)]
   rfl
 ·obtain ⟨g, e1, g0, g1, g2⟩ := k2 (by rw [h]; rfl)
  obtain ⟨g, rfl⟩ := Int.eq_ofNat_of_zero_le g0
  have e2 : ((k : Int) - 1) = ((k - 1 : Nat) : Int) := by omega
  rw [e2] at e1
  have ht' := trs_at hK hk hks (by rw [e1]; intro c hc; simp at hc; omega)
  obtain ⟨ra, ha1, ha2⟩ := htb g (by omega)
  obtain ⟨rb, hb1, hb2⟩ := htb (k - 1) (by omega)
  have hm : mkT p[k] (ks'.map (getT (trs p K))) = .cat (getT (trs p K) (g : Int)) (getT (trs p K) ((k - 1 : Nat) : Int)) := by rw [e1]; unfold mkT; simp [h]
  have r0 : rd? ks' 0 = some (g : Int) := by rw [e1]; rfl
  have r1 : rd? ks' 1 = some ((k - 1 : Nat) : Int) := by rw [e1]; rfl
  rw [ht', hm]
  simp only [h]
  have c1 : ((3 : Int) == 1) = false := by decide
  have c2 : ((3 : Int) == 2) = false := by decide
  have c4 : ((3 : Int) == 4) = false := by decide
  have c3 : ((3 : Int) == 3) = true := by decide
  simp only [c1, c2, c3, c4, Bool.false_eq_true, if_false, if_true]
  rw [p_cCat r0 r1 (rd?_get' ha1) (rd?_get' hb1) ha2 hb2 hl ht (t - f + 1) f _ 0 (Nat.le_refl _) (by omega) (by omega) (Int.le_refl _) (by omega)]
  refine ⟨_, rfl, ?_⟩
  have := cnt_bd l (.cat (getT (trs p K) (g : Int)) (getT (trs p K) ((k - 1 : Nat) : Int))) f t
  exact Int.min_eq_left this.2
 ·obtain ⟨g, e1, g0, g1, g2⟩ := k2 (by rw [h]; rfl)
  obtain ⟨g, rfl⟩ := Int.eq_ofNat_of_zero_le g0
  have e2 : ((k : Int) - 1) = ((k - 1 : Nat) : Int) := by omega
  rw [e2] at e1
  have ht' := trs_at hK hk hks (by rw [e1]; intro c hc; simp at hc; omega)
  obtain ⟨ra, ha1, ha2⟩ := htb g (by omega)
  obtain ⟨rb, hb1, hb2⟩ := htb (k - 1) (by omega)
  have hm : mkT p[k] (ks'.map (getT (trs p K))) = .or (getT (trs p K) (g : Int)) (getT (trs p K) ((k - 1 : Nat) : Int)) := by rw [e1]; unfold mkT; simp [h]
  have r0 : rd? ks' 0 = some (g : Int) := by rw [e1]; rfl
  have r1 : rd? ks' 1 = some ((k - 1 : Nat) : Int) := by rw [e1]; rfl
  rw [ht', hm]
  simp only [h]
  have c1 : ((4 : Int) == 1) = false := by decide
  have c2 : ((4 : Int) == 2) = false := by decide
  have c4 : ((4 : Int) == 4) = true := by decide
  obtain ⟨q1, a1, a2⟩ := ha2.rd (f := f) (t := t) (by omega) hf ht (by omega)
  obtain ⟨q2, b1, b2⟩ := hb2.rd (f := f) (t := t) (by omega) hf ht (by omega)
  have d1 := cnt_bd l (getT (trs p K) (g : Int)) f t
  have d2 := cnt_bd l (getT (trs p K) ((k - 1 : Nat) : Int)) f t
  unfold valC at a2 b2
  simp only [c1, c2, c4, Bool.false_eq_true, if_false, if_true, r0, r1, Option.bind_some, rd?_get' ha1, rd?_get' hb1, a1, a2, b1, b2]
  rw [yv (by omega) (by omega)]
  exact ⟨_, rfl, rfl⟩
 ·exact absurd h hpl.1
 ·obtain ⟨e1, g1⟩ := k1 (by rw [h]; rfl)
  have e2 : ((k : Int) - 1) = ((k - 1 : Nat) : Int) := by omega
  rw [e2] at e1
  have ht' := trs_at hK hk hks (by rw [e1]; intro c hc; simp at hc; omega)
  obtain ⟨ra, ha1, ha2⟩ := htb (k - 1) (by omega)
  have hm : mkT p[k] (ks'.map (getT (trs p K))) = .star (getT (trs p K) ((k - 1 : Nat) : Int)) := by rw [e1]; unfold mkT; simp [h]
  have r0 : rd? ks' 0 = some ((k - 1 : Nat) : Int) := by rw [e1]; rfl
  rw [hm] at ht'
  unfold valC at hV
  rw [ht'] at hV ⊢
  simp only [h]
  have c1 : ((6 : Int) == 1) = false := by decide
  have c2 : ((6 : Int) == 2) = false := by decide
  have c3 : ((6 : Int) == 3) = false := by decide
  have c4 : ((6 : Int) == 4) = false := by decide
  simp only [c1, c2, c3, c4, Bool.false_eq_true, if_false, if_true, Option.bind_some]
  by_cases hft : f = t
  ·subst hft
   rw [if_pos (by simp), cnt_star_eq]
   exact ⟨1, rfl, rfl⟩
  ·rw [if_neg (by simp; omega), y03 f (by omega)]
   rw [p_cStar r0 (rd?_get' ha1) (rd?_get' hr) ha2 hV hl ht (t - f) (f + 1) _ 0 (by omega) (by omega) (by omega) (Int.le_refl _) (by omega)]
   refine ⟨_, rfl, ?_⟩
   have := cnt_bd l (.star (getT (trs p K) ((k - 1 : Nat) : Int))) f t
   rw [cnt_star l _ (by omega)] at this ⊢
   omega
 ·exact absurd h hpl.2
theorem TbC.app {n : Nat} {V : Nat → Nat → Nat → Int} {tb : List (List (List Int))} (h : TbC n V tb.length tb) (r : List (List Int)) : TbC n V tb.length (tb ++ [r]) := fun c hc => by
 obtain ⟨rows, h1, h2⟩ := h c hc
 exact ⟨rows, by rw [List.getElem?_append_left hc]; exact h1, h2⟩
section
variable {p : List Nd} {K : List (List Int)} {bo : Bool} {l : List Int}
theorem p_c3 (hp : p.length ≤ 1000) (hset : ∀ u ∈ p, u.2.length ≤ 1000) (hpl : ∀ u ∈ p, u.1 ≠ 5 ∧ u.1 ≠ 7) (hl : l.length ≤ 1000) (hK : Kids p K p.length) {tb : List (List (List Int))} {r0 : List (List Int)} (hk : tb.length < p.length) (htb : TbC l.length (valC l p K) tb.length tb) {f : Nat} (hf : f ≤ l.length) : ∀ (m t k : Nat) (rows : List (List Int)), f ≤ t → t + m = l.length + 1 → m < k → RowsC l.length (valC l p K tb.length) f t rows →
  ∃ rows', z1k.l3 l (K, bo) tb (tb.length : Int) p[tb.length] (tb ++ [r0]) (f : Int) k rows (t : Int) = some rows' ∧ RowsC l.length (valC l p K tb.length) f (l.length + 1) rows' := by
 intro m
 induction m with
 | zero =>
  intro t k rows h1 h2 hk2 hV
  obtain ⟨k, rfl⟩ := Nat.exists_eq_succ_of_ne_zero (show k ≠ 0 by omega)
  rw [z1k.l3, if_neg (by simp; omega)]
  obtain rfl : t = l.length + 1 := by omega
  exact ⟨rows, rfl, hV⟩
 | succ m ih =>
  intro t k rows h1 h2 hk2 hV
  obtain ⟨k, rfl⟩ := Nat.exists_eq_succ_of_ne_zero (show k ≠ 0 by omega)
  obtain ⟨row, e1, e2, e3⟩ := hV.2 f (Nat.le_refl _) hf
  obtain ⟨ks, hks, _⟩ := hK.2 tb.length hk hk
  have hrl : f < rows.length := by rw [hV.1]; omega
  have q1 := st_mid tb r0 rows []
  obtain ⟨v, q2, q3⟩ := p_countOf hp hset hl hK hk (hpl _ (List.getElem_mem hk)) hks (htb.app rows) (rows := rows) (by rw [List.getElem?_append_right (Nat.le_refl _)]; simp) hV h1 (show t ≤ l.length by omega)
  rw [z1k.l3, if_pos (by simp; omega), rd?_get' hks, rd?_get' e1]
  simp only [Option.bind_some]
  rw [q1]
  simp only [Option.bind_some]
  rw [q2]
  simp only [Option.bind_some]
  rw [rd?_at (show t < row.length by omega)]
  simp only [Option.bind_some]
  rw [st?_at _ (show t < row.length by omega)]
  simp only [Option.bind_some]
  rw [st?_at _ hrl]
  simp only [Option.bind_some]
  rw [y03 t (by omega), q3]
  refine ih (t + 1) k _ (by omega) (by omega) (by omega) ⟨by simpa using hV.1, fun r hr1 hr => ?_⟩
  by_cases hfr : f = r
  ·subst hfr
   refine ⟨_, List.getElem?_set_self hrl, by simpa using e2, fun t' g1 g2 g3 => ?_⟩
   by_cases htt : t = t'
   ·subst htt
    rw [List.getElem?_set_self (by omega)]
   ·rw [List.getElem?_set_ne htt]
    exact e3 t' g1 g2 (by omega)
  ·obtain ⟨row', b1, b2, b3⟩ := hV.2 r hr1 hr
   exact ⟨row', by rw [List.getElem?_set_ne hfr]; exact b1, b2, fun t' g1 g2 g3 => b3 t' g1 g2 (by omega)⟩
theorem p_c2 (hp : p.length ≤ 1000) (hset : ∀ u ∈ p, u.2.length ≤ 1000) (hpl : ∀ u ∈ p, u.1 ≠ 5 ∧ u.1 ≠ 7) (hl : l.length ≤ 1000) (hK : Kids p K p.length) {tb : List (List (List Int))} {r0 : List (List Int)} (hk : tb.length < p.length) (htb : TbC l.length (valC l p K) tb.length tb) : ∀ (q k : Nat) (rows : List (List Int)), q ≤ l.length + 1 → q < k → RowsC l.length (valC l p K tb.length) q (l.length + 1) rows →
  ∃ rows', z1k.l2 l (K, bo) tb (tb.length : Int) p[tb.length] (tb ++ [r0]) k rows ((q : Int) - 1) = some (tb ++ [rows']) ∧ RowsC l.length (valC l p K tb.length) 0 (l.length + 1) rows' := by
 intro q
 induction q with
 | zero =>
  intro k rows h1 hk2 hV
  obtain ⟨k, rfl⟩ := Nat.exists_eq_succ_of_ne_zero (show k ≠ 0 by omega)
  rw [z1k.l2, if_neg (by decide), st_mid tb r0 rows []]
  exact ⟨rows, rfl, hV⟩
 | succ q ih =>
  intro k rows h1 hk2 hV
  obtain ⟨k, rfl⟩ := Nat.exists_eq_succ_of_ne_zero (show k ≠ 0 by omega)
  have hq : q < rows.length := by rw [hV.1]; omega
  rw [show ((q + 1 : Nat) : Int) - 1 = (q : Int) by omega, z1k.l2, if_pos (by simp), y03 l.length (by omega), mk?_at (by omega)]
  simp only [Option.bind_some]
  rw [rd?_at hq]
  simp only [Option.bind_some]
  rw [st?_at _ hq]
  simp only [Option.bind_some]
  obtain ⟨rows', e1, e2⟩ := p_c3 (bo := bo) (r0 := r0) hp hset hpl hl hK hk htb (f := q) (by omega) (l.length + 1 - q) q (((l.length : Int) - (q : Int)).toNat + 2) (rows.set q (List.replicate (l.length + 1) 0)) (Nat.le_refl _) (by omega) (by omega) (hV.last _ (by simp) (by omega))
  rw [e1]
  simp only [Option.bind_some]
  rw [yv (by omega) (by omega)]
  exact ih k rows' (by omega) (by omega) e2
theorem p_c1 (hp : p.length ≤ 1000) (hset : ∀ u ∈ p, u.2.length ≤ 1000) (hpl : ∀ u ∈ p, u.1 ≠ 5 ∧ u.1 ≠ 7) (hl : l.length ≤ 1000) (hK : Kids p K p.length) : ∀ (m k : Nat) (tb : List (List (List Int))), tb.length + m = p.length → m < k → TbC l.length (valC l p K) tb.length tb → ∃ tb', z1k.l1 p l (K, bo) k tb (tb.length : Int) = some tb' ∧ tb'.length = p.length ∧ TbC l.length (valC l p K) p.length tb' := by
 intro m
 induction m with
 | zero =>
  intro k tb h1 hk htb
  obtain ⟨k, rfl⟩ := Nat.exists_eq_succ_of_ne_zero (show k ≠ 0 by omega)
  rw [z1k.l1, if_neg (by simp; omega)]
  exact ⟨tb, rfl, by omega, by rw [← show tb.length = p.length by omega]; exact htb⟩
 | succ m ih =>
  intro k tb h1 hk htb
  obtain ⟨k, rfl⟩ := Nat.exists_eq_succ_of_ne_zero (show k ≠ 0 by omega)
  rw [z1k.l1, if_pos (by simp; omega), rd?_at (show tb.length < p.length by omega), y03 l.length (by omega), mk?_at (by omega)]
  simp only [Option.bind_some]
  rw [app?_at (by simp; omega)]
  simp only [Option.bind_some]
  obtain ⟨rows', e1, e2⟩ := p_c2 (bo := bo) (r0 := List.replicate (l.length + 1) []) hp hset hpl hl hK (show tb.length < p.length by omega) htb (l.length + 1) (((l.length : Int) - 0).toNat + 2) (List.replicate (l.length + 1) []) (Nat.le_refl _) (by omega) ⟨by simp, fun g h1 h2 => by omega⟩
  rw [show ((l.length + 1 : Nat) : Int) - 1 = (l.length : Int) by omega] at e1
  rw [e1]
  simp only [Option.bind_some]
  rw [y03 tb.length (by omega)]
  have := ih k (tb ++ [rows']) (by simp; omega) (by omega) (by
   rw [List.length_append, List.length_singleton]
   intro c hc
   by_cases hct : c < tb.length
   ·exact htb.app rows' c hct
   ·obtain rfl : c = tb.length := by omega
    exact ⟨rows', by rw [List.getElem?_append_right (Nat.le_refl _)]; simp, e2⟩)
  rw [List.length_append, List.length_singleton] at this
  exact this
theorem p_counts {q : List Int} (hp : p.length ≤ 1000) (hset : ∀ u ∈ p, u.2.length ≤ 1000) (hpl : ∀ u ∈ p, u.1 ≠ 5 ∧ u.1 ≠ 7) (hl : l.length ≤ 1000) (h : pileR p 0 [] [] = some (K, q)) : Kids p K p.length ∧ ∃ tb, z1k.f p l = some tb ∧ tb.length = p.length ∧ TbC l.length (valC l p K) p.length tb := by
 have hK : Kids p K p.length := (kids_of p hp p [] [] [] K q rfl rfl ⟨rfl, fun k hk => by simp at hk⟩ h).1
 refine ⟨hK, ?_⟩
 obtain ⟨tb, e1, e2, e3⟩ := p_c1 (bo := ((q.length : Int) == 1)) hp hset hpl hl hK p.length (((p.length : Int) - 0).toNat + 2) [] (by simp) (by omega) (fun c hc => by simp at hc)
 refine ⟨tb, ?_, e2, e3⟩
 unfold z1k.f
 rw [p_parts p (by omega), h]
 simp only [Option.bind_some]
 rw [show (([] : List (List (List Int))).length : Int) = 0 from rfl] at e1
 rw [e1]
 rfl
end
theorem l1LeastP (a b : Int) : z9.f a b = some (min a b) := by
 unfold z9.f
 by_cases h : a < b
 ·rw [if_pos (by simpa using h)]
  congr 1
  omega
 ·rw [if_neg (by simpa using h)]
  congr 1
  omega
def FlatC (n : Nat) (v : Nat → Nat → Int) (i j : Nat) (fl : List Int) : Prop := fl.length = (n + 1) * (n + 1) ∧ ∀ f t, f ≤ t → t ≤ n → (i < f ∨ f = i ∧ t < j) → fl[f * (n + 1) + t]? = some (v f t)
def FlatD (n : Nat) (v : Nat → Nat → Int) (fl : List Int) : Prop := fl.length = (n + 1) * (n + 1) ∧ ∀ f t, f ≤ t → t ≤ n → fl[f * (n + 1) + t]? = some (v f t)
def TfC (n : Nat) (V : Nat → Nat → Nat → Int) (m : Nat) (tb : List (List Int)) : Prop := ∀ c, c < m → ∃ fl, tb[c]? = some fl ∧ FlatD n (V c) fl
theorem FlatD.rd {n : Nat} {v : Nat → Nat → Int} {fl : List Int} (h : FlatD n v fl) (hn : n ≤ 1000) {f t : Nat} (hf : f ≤ t) (ht : t ≤ n) : rd? fl (IntKind.i64.wrap ((IntKind.i64.wrap ((f : Int) * (IntKind.i64.wrap ((n : Int) + 1)))) + (t : Int))) = some (v f t) := by
 rw [ix_flat hn (by omega) ht]
 exact rd?_get' (h.2 f t hf ht)
theorem FlatC.rd {n : Nat} {v : Nat → Nat → Int} {i j : Nat} {fl : List Int} (h : FlatC n v i j fl) (hn : n ≤ 1000) {f t : Nat} (hf : f ≤ t) (ht : t ≤ n) (ho : i < f ∨ f = i ∧ t < j) : rd? fl (IntKind.i64.wrap ((IntKind.i64.wrap ((f : Int) * (IntKind.i64.wrap ((n : Int) + 1)))) + (t : Int))) = some (v f t) := by
 rw [ix_flat hn (by omega) ht]
 exact rd?_get' (h.2 f t hf ht ho)
theorem p_sCat {p : List Nd} {l : List Int} {A B : RT} {tb : List (List Int)} {fa fb : List Int} {a k0 : Nat} {f t : Nat} (hl : l.length ≤ 1000) (hk0 : IntKind.i64.wrap ((k0 : Int) - 1) = ((k0 - 1 : Nat) : Int)) (h1 : z1d.f p (k0 : Int) = some (a : Int)) (ha : rd? tb (a : Int) = some fa) (hb : rd? tb ((k0 - 1 : Nat) : Int) = some fb) (hfa : FlatD l.length (cnt l A) fa) (hfb : FlatD l.length (cnt l B) fb) (ht : t ≤ l.length) : ∀ (n i k : Nat) (s : Int), f ≤ i → i + n = t + 1 → n < k → 0 ≤ s → s ≤ 1000000 →
  z1m.l1 p tb l (k0 : Int) f t k s (i : Int) = some (sumC (fun m => cnt l A f m * cnt l B m t) n i s) := by
 intro n
 induction n with
 | zero =>
  intro i k s hf hi hk _ _
  obtain ⟨k, rfl⟩ := Nat.exists_eq_succ_of_ne_zero (show k ≠ 0 by omega)
  rw [z1m.l1, if_neg (by simp; omega)]
  rfl
 | succ n ih =>
  intro i k s hf hi hk hs hs1
  obtain ⟨k, rfl⟩ := Nat.exists_eq_succ_of_ne_zero (show k ≠ 0 by omega)
  have b1 := cnt_bd l A f i
  have b2 := cnt_bd l B i t
  rw [z1m.l1, if_pos (by simp; omega), hk0, hb]
  simp only [Option.bind_some, hfb.rd hl (show i ≤ t by omega) ht, h1, ha, hfa.rd hl hf (show i ≤ l.length by omega)]
  rw [stepC hs hs1 b1.1 b1.2 b2.1 b2.2, l1LeastP]
  simp only [Option.bind_some]
  rw [y03 i (by omega), Int.min_comm]
  have := Int.mul_nonneg b1.1 b2.1
  exact ih (i + 1) k _ (by omega) (by omega) (by omega) (by omega) (by omega)
theorem p_sStar {l : List Int} {A : RT} {tb : List (List Int)} {fa fc : List Int} {k0 : Nat} {f t : Nat} (hl : l.length ≤ 1000) (hk0 : IntKind.i64.wrap ((k0 : Int) - 1) = ((k0 - 1 : Nat) : Int)) (ha : rd? tb ((k0 - 1 : Nat) : Int) = some fa) (hfa : FlatD l.length (cnt l A) fa) (hfc : FlatC l.length (cnt l (.star A)) f t fc) (ht : t ≤ l.length) : ∀ (n i k : Nat) (s : Int), f < i → i + n = t + 1 → n < k → 0 ≤ s → s ≤ 1000000 →
  z1m.l2 tb fc l (k0 : Int) f t k s (i : Int) = some (sumC (fun m => cnt l A f m * cnt l (.star A) m t) n i s) := by
 intro n
 induction n with
 | zero =>
  intro i k s hf hi hk _ _
  obtain ⟨k, rfl⟩ := Nat.exists_eq_succ_of_ne_zero (show k ≠ 0 by omega)
  rw [z1m.l2, if_neg (by simp; omega)]
  rfl
 | succ n ih =>
  intro i k s hf hi hk hs hs1
  obtain ⟨k, rfl⟩ := Nat.exists_eq_succ_of_ne_zero (show k ≠ 0 by omega)
  have b1 := cnt_bd l A f i
  have b2 := cnt_bd l (.star A) i t
  have e : (if decide ((i : Int) < (t : Int)) = true then ((rd? fc (IntKind.i64.wrap ((IntKind.i64.wrap ((i : Int) * (IntKind.i64.wrap ((l.length : Int) + 1)))) + (t : Int)))).bind fun u => some u) else some 1) = some (cnt l (.star A) i t) := by
   by_cases hit : i < t
   ·rw [if_pos (by simpa using hit), hfc.rd hl (show i ≤ t by omega) ht (.inl hf)]
    rfl
   ·rw [if_neg (by simpa using hit)]
    obtain rfl : i = t := by omega
    rw [cnt_star_eq]
  rw [z1m.l2, if_pos (by simp; omega), e]
  simp only [Option.bind_some]
  rw [hk0, ha]
  simp only [Option.bind_some, hfa.rd hl (show f ≤ i by omega) (show i ≤ l.length by omega)]
  rw [stepC hs hs1 b1.1 b1.2 b2.1 b2.2, l1LeastP]
  simp only [Option.bind_some]
  rw [y03 i (by omega), Int.min_comm]
  have := Int.mul_nonneg b1.1 b2.1
  exact ih (i + 1) k _ (by omega) (by omega) (by omega) (by omega) (by omega)
theorem p_sCell {p : List Nd} {K : List (List Int)} {l : List Int} {tb : List (List Int)} {fl : List Int} (hp : p.length ≤ 1000) (hset : ∀ u ∈ p, u.2.length ≤ 1000 ∧ u.2.length % 2 = 0) (hl : l.length ≤ 1000) (hK : Kids p K p.length) {k : Nat} (hk : k < p.length) (hpl : p[k].1 ≠ 5 ∧ p[k].1 ≠ 7) (htb : TfC l.length (valC l p K) k tb) {f t : Nat} (hV : FlatC l.length (valC l p K k) f t fl) (hf : f ≤ t) (ht : t ≤ l.length) :
  ∃ v, z1m.f p tb fl l (k : Int) p[k].1 p[k].2 (f : Int) (t : Int) = some v ∧ min v 1000000 = valC l p K k f t := by
 obtain ⟨ks, hks, hko⟩ := hK.2 k hk hk
 obtain ⟨k0, k1, k2, k3⟩ := hko
 unfold z1m.f valC
 have hsk := hset _ (List.getElem_mem hk)
 rcases ar_cases k3 with h | h | h | h | h | h | h
 ·have ht' := trs_at hK hk hks (by rw [k0 (by rw [h]; rfl)]; simp)
  have hm : mkT p[k] (ks.map (getT (trs p K))) = .nil := by unfold mkT; simp [h]
  rw [ht', hm]
  simp only [h]
  refine ⟨if f = t then 1 else 0, ?_, ?_⟩
  ·by_cases hft : f = t
   ·subst hft; simp
   ·have : ((f : Int) == (t : Int)) = false := by simp; omega
    simp [this, hft]
  ·unfold cnt
   split <;> rfl
 ·have ht' := trs_at hK hk hks (by rw [k0 (by rw [h]; rfl)]; simp)
  have hm : mkT p[k] (ks.map (getT (trs p K))) = .set p[k].2 := by unfold mkT; rw [if_neg (by omega), if_pos h]
  rw [ht', hm]
  simp only [h]
  have c1 : ((2 : Int) == 1) = false := by decide
  have c2 : ((2 : Int) == 2) = true := by decide
  simp only [c1, c2, Bool.false_eq_true, if_false, if_true]
  rw [y03 f (by omega)]
  unfold cnt
  by_cases hft : t = f + 1
  ·subst hft
   rw [if_pos (by simp), rd?_at (show f < l.length by omega)]
   simp only [Option.bind_some]
   rw [p_specIn _ _ (by omega) hsk.2, List.getElem?_eq_getElem (show f < l.length by omega), Option.getD_some]
   cases inS p[k].2 l[f]
   ·exact ⟨0, rfl, by simp; decide⟩
   ·exact ⟨1, rfl, by simp; decide⟩
  ·rw [if_neg (by simp; omega)]
   exact ⟨0, rfl, by rw [if_neg (fun h => hft h.1)]; rfl⟩
 ·obtain ⟨g, e1, g0, g1, g2⟩ := k2 (by rw [h]; rfl)
  obtain ⟨g, rfl⟩ := Int.eq_ofNat_of_zero_le g0
  have hw : IntKind.i64.wrap ((k : Int) - 1) = ((k - 1 : Nat) : Int) := by rw [yv (by omega) (by omega)]; omega
  have e2 : ((k : Int) - 1) = ((k - 1 : Nat) : Int) := by omega
  rw [e2] at e1
  have ht' := trs_at hK hk hks (by rw [e1]; intro c hc; simp at hc; omega)
  obtain ⟨ra, ha1, ha2⟩ := htb g (by omega)
  obtain ⟨rb, hb1, hb2⟩ := htb (k - 1) (by omega)
  have hm : mkT p[k] (ks.map (getT (trs p K))) = .cat (getT (trs p K) (g : Int)) (getT (trs p K) ((k - 1 : Nat) : Int)) := by rw [e1]; unfold mkT; simp [h]
  rw [ht', hm]
  simp only [h]
  have c1 : ((3 : Int) == 1) = false := by decide
  have c2 : ((3 : Int) == 2) = false := by decide
  have c4 : ((3 : Int) == 4) = false := by decide
  have c3 : ((3 : Int) == 3) = true := by decide
  simp only [c1, c2, c3, c4, Bool.false_eq_true, if_false, if_true]
  rw [p_sCat hl hw g2 (rd?_get' ha1) (rd?_get' hb1) ha2 hb2 ht (t - f + 1) f _ 0 (Nat.le_refl _) (by omega) (by omega) (Int.le_refl _) (by omega)]
  refine ⟨_, rfl, ?_⟩
  have := cnt_bd l (.cat (getT (trs p K) (g : Int)) (getT (trs p K) ((k - 1 : Nat) : Int))) f t
  exact Int.min_eq_left this.2
 ·obtain ⟨g, e1, g0, g1, g2⟩ := k2 (by rw [h]; rfl)
  obtain ⟨g, rfl⟩ := Int.eq_ofNat_of_zero_le g0
  have hw : IntKind.i64.wrap ((k : Int) - 1) = ((k - 1 : Nat) : Int) := by rw [yv (by omega) (by omega)]; omega
  have e2 : ((k : Int) - 1) = ((k - 1 : Nat) : Int) := by omega
  rw [e2] at e1
  have ht' := trs_at hK hk hks (by rw [e1]; intro c hc; simp at hc; omega)
  obtain ⟨ra, ha1, ha2⟩ := htb g (by omega)
  obtain ⟨rb, hb1, hb2⟩ := htb (k - 1) (by omega)
  have hm : mkT p[k] (ks.map (getT (trs p K))) = .or (getT (trs p K) (g : Int)) (getT (trs p K) ((k - 1 : Nat) : Int)) := by rw [e1]; unfold mkT; simp [h]
  rw [ht', hm]
  simp only [h]
  have c1 : ((4 : Int) == 1) = false := by decide
  have c2 : ((4 : Int) == 2) = false := by decide
  have c4 : ((4 : Int) == 4) = true := by decide
  have d1 := cnt_bd l (getT (trs p K) (g : Int)) f t
  have d2 := cnt_bd l (getT (trs p K) ((k - 1 : Nat) : Int)) f t
  have x1 := ha2.rd hl hf ht
  have x2 := hb2.rd hl hf ht
  unfold valC at x1 x2
  simp only [c1, c2, c4, Bool.false_eq_true, if_false, if_true, hw, g2, Option.bind_some, rd?_get' ha1, rd?_get' hb1, x1, x2]
  rw [yv (by omega) (by omega)]
  exact ⟨_, rfl, rfl⟩
 ·exact absurd h hpl.1
 ·obtain ⟨e1, g1⟩ := k1 (by rw [h]; rfl)
  have hw : IntKind.i64.wrap ((k : Int) - 1) = ((k - 1 : Nat) : Int) := by rw [yv (by omega) (by omega)]; omega
  have e2 : ((k : Int) - 1) = ((k - 1 : Nat) : Int) := by omega
  rw [e2] at e1
  have ht' := trs_at hK hk hks (by rw [e1]; intro c hc; simp at hc; omega)
  obtain ⟨ra, ha1, ha2⟩ := htb (k - 1) (by omega)
  have hm : mkT p[k] (ks.map (getT (trs p K))) = .star (getT (trs p K) ((k - 1 : Nat) : Int)) := by rw [e1]; unfold mkT; simp [h]
  rw [hm] at ht'
  unfold valC at hV
  rw [ht'] at hV ⊢
  simp only [h]
  have c1 : ((6 : Int) == 1) = false := by decide
  have c2 : ((6 : Int) == 2) = false := by decide
  have c3 : ((6 : Int) == 3) = false := by decide
  have c4 : ((6 : Int) == 4) = false := by decide
  have c6 : ((6 : Int) == 6) = true := by decide
  simp only [c1, c2, c3, c4, c6, Bool.false_eq_true, if_false, if_true, Option.bind_some]
  by_cases hft : f = t
  ·subst hft
   rw [if_pos (by simp), cnt_star_eq]
   exact ⟨1, rfl, rfl⟩
  ·rw [if_neg (by simp; omega), y03 f (by omega)]
   rw [p_sStar hl hw (rd?_get' ha1) ha2 hV ht (t - f) (f + 1) _ 0 (by omega) (by omega) (by omega) (Int.le_refl _) (by omega)]
   refine ⟨_, rfl, ?_⟩
   have := cnt_bd l (.star (getT (trs p K) ((k - 1 : Nat) : Int))) f t
   rw [cnt_star l _ (by omega)] at this ⊢
   omega
 ·exact absurd h hpl.2
theorem FlatC.last {n : Nat} {v : Nat → Nat → Int} {f : Nat} {fl : List Int} (h : FlatC n v f (n + 1) fl) : ∀ g, g + 1 = f → FlatC n v g g fl := fun g hg =>
 ⟨h.1, fun r t h1 h2 ho => h.2 r t h1 h2 (by omega)⟩
theorem FlatC.all {n : Nat} {v : Nat → Nat → Int} {fl : List Int} (h : FlatC n v 0 (n + 1) fl) : FlatD n v fl :=
 ⟨h.1, fun r t h1 h2 => h.2 r t h1 h2 (by omega)⟩
end Go.Proofs.YtbeolahmnoeicaaGreat
