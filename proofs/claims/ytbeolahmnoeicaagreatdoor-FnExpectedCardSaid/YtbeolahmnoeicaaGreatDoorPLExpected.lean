/- Plain laws of the printed functions. Conditions as each lemma says. -/
import Derived.Test.YtbeolahmnoeicaaGreatDoorPLExpectedq0
set_option linter.unusedVariables false
set_option linter.unusedSimpArgs false
namespace Go.Proofs.YtbeolahmnoeicaaGreatDoor
open Go Go.Proofs.GL
theorem or32i {x y z : Int} (i : Nat) (p : Int) (hp : p = ((2 ^ i : Nat) : Int)) (hx : x % p = 0) (hx0 : 0 ≤ x) (hy0 : 0 ≤ y) (hy : y < p) (hb : x + y < 2147483648) (hz : z = x + y) : bits .or .i32 x y = z := by
 subst hz
 obtain ⟨v, rfl⟩ := Int.eq_ofNat_of_zero_le hy0
 have h1 : x = p * (x / p) := by have := Int.emod_add_mul_ediv x p; omega
 have hp0 : 0 < p := by omega
 obtain ⟨u, hu⟩ := Int.eq_ofNat_of_zero_le (Int.ediv_nonneg hx0 (Int.le_of_lt hp0))
 rw [hu, hp] at h1
 have h2 : x = ((2 ^ i * u : Nat) : Int) := by rw [h1, Int.natCast_mul]
 have := or32 u v i (by omega) (by omega)
 rw [h2, this]
 omega
def slowChk (a : Nat) : Bool := match rd? u8First (a : Int) with
 | some v => if v ≥ 240 then decide (a < 128) || (decide (u8n a = 1) && decide (((shlK? .i32 (IntKind.i32.wrap v) 31).bind fun x => (shrK? .i32 x 31).bind fun y => some (bits .or .i32 (bits .andNot .i32 (IntKind.i32.wrap a) y) (bits .and .i32 65533 y))) = some 65533)) else decide (2 ≤ u8n a)
 | none => false
theorem slowAll : ∀ a : Nat, a < 256 → slowChk a = true := by decide +kernel
theorem slow_of {a v : Int} (h0 : 128 ≤ a) (h1 : a < 256) (hv : rd? u8First a = some v) : (v ≥ 240 → u8n a = 1 ∧ ((shlK? .i32 (IntKind.i32.wrap v) 31).bind fun x => (shrK? .i32 x 31).bind fun y => some (bits .or .i32 (bits .andNot .i32 (IntKind.i32.wrap a) y) (bits .and .i32 65533 y))) = some 65533) ∧ (¬ v ≥ 240 → 2 ≤ u8n a) := by
 obtain ⟨n, rfl⟩ := Int.eq_ofNat_of_zero_le (show 0 ≤ a by omega)
 have := slowAll n (by omega)
 unfold slowChk at this
 rw [hv] at this
 dsimp only at this
 by_cases h : v ≥ 240
 ·rw [if_pos h] at this
  simp only [Bool.and_eq_true, Bool.or_eq_true, decide_eq_true_eq] at this
  exact ⟨fun _ => this.resolve_left (by omega), fun c => absurd h c⟩
 ·rw [if_neg h] at this
  exact ⟨fun c => absurd c h, fun _ => by simpa using this⟩
def mskChk (a : Nat) : Bool :=
 decide (shlK? .i32 (IntKind.i32.wrap (bits .and .u8 a 31)) 6 = some ((a : Int) % 32 * 64)) &&
 (decide (shlK? .i32 (IntKind.i32.wrap (bits .and .u8 a 15)) 12 = some ((a : Int) % 16 * 4096)) &&
 (decide (shlK? .i32 (IntKind.i32.wrap (bits .and .u8 a 7)) 18 = some ((a : Int) % 8 * 262144)) &&
 (decide (shlK? .i32 (IntKind.i32.wrap (bits .and .u8 a 63)) 6 = some ((a : Int) % 64 * 64)) &&
 (decide (shlK? .i32 (IntKind.i32.wrap (bits .and .u8 a 63)) 12 = some ((a : Int) % 64 * 4096)) &&
 decide (IntKind.i32.wrap (bits .and .u8 a 63) = (a : Int) % 64)))))
theorem mskAll : ∀ a : Nat, a < 256 → mskChk a = true := by decide +kernel
theorem msk_of {a : Int} (h0 : 0 ≤ a) (h1 : a < 256) : shlK? .i32 (IntKind.i32.wrap (bits .and .u8 a 31)) 6 = some (a % 32 * 64) ∧ shlK? .i32 (IntKind.i32.wrap (bits .and .u8 a 15)) 12 = some (a % 16 * 4096) ∧ shlK? .i32 (IntKind.i32.wrap (bits .and .u8 a 7)) 18 = some (a % 8 * 262144) ∧ shlK? .i32 (IntKind.i32.wrap (bits .and .u8 a 63)) 6 = some (a % 64 * 64) ∧ shlK? .i32 (IntKind.i32.wrap (bits .and .u8 a 63)) 12 = some (a % 64 * 4096) ∧ IntKind.i32.wrap (bits .and .u8 a 63) = a % 64 := by
 obtain ⟨n, rfl⟩ := Int.eq_ofNat_of_zero_le h0
 have := mskAll n (by omega)
 unfold mskChk at this
 simpa only [Bool.and_eq_true, decide_eq_true_eq] using this
theorem bindTop {x rd : Option Int} {a : Int} (g : Int → Option Int) (z : Int) (h : Int → Int → Int) (hrd : rd = some a) (e : (x.bind fun x => (g x).bind fun y => some (h a y)) = some z) : (x.bind fun x => (g x).bind fun y => rd.bind fun c => some (h c y, (1 : Int))) = some (z, 1) := by
 subst hrd
 cases x with
 | none => cases e
 | some x =>
  rw [Option.bind_some] at e ⊢
  cases hg : g x with
  | none => rw [hg] at e; cases e
  | some y =>
   rw [hg, Option.bind_some] at e
   rw [Option.bind_some, Option.bind_some, Option.some.inj e]
theorem dec_rng (L : List Int) (hL : ∀ u ∈ L, 0 ≤ u ∧ u < 256) (hne : L ≠ []) : 0 ≤ (dec L).1 ∧ (dec L).1 ≤ 1114111 ∧ 1 ≤ (dec L).2 ∧ (dec L).2 ≤ L.length := by
 cases L with
 | nil => exact absurd rfl hne
 | cons a r =>
  have ha := hL a (by simp)
  have g0 : (a :: r).getD 0 0 = a := rfl
  have z : ∀ i, r.length ≤ i → (a :: r).getD (i + 1) 0 = 0 := fun i hi => by simp [List.getD, List.getElem?_eq_none hi]
  have s0 : ∀ b, b = 0 → ¬ sndOk a b := fun b hb h => by unfold sndOk u8lo at h; repeat' split at h <;> omega
  have s1 : ∀ b, b = 0 → ¬ cont b := fun b hb h => by unfold cont at h; omega
  have sr : ∀ b, sndOk a b → 128 ≤ b ∧ b ≤ 191 ∧ (a = 244 → b ≤ 143) := fun b h => by unfold sndOk u8lo u8hi at h; repeat' split at h <;> omega
  unfold dec
  simp only [g0, List.length_cons]
  by_cases h1 : a < 128
  ·rw [if_pos h1]; simp only; omega
  rw [if_neg h1]
  by_cases h2 : u8n a = 2 ∧ sndOk a ((a :: r).getD 1 0)
  ·rw [if_pos h2]
   have hl : 1 ≤ r.length := Nat.le_of_not_lt fun c => s0 _ (z 0 (by omega)) h2.2
   have := sr _ h2.2
   have := h2.1
   unfold u8n at this
   simp only
   repeat' split at this <;> omega
  rw [if_neg h2]
  by_cases h3 : u8n a = 3 ∧ sndOk a ((a :: r).getD 1 0) ∧ cont ((a :: r).getD 2 0)
  ·rw [if_pos h3]
   have hl : 2 ≤ r.length := Nat.le_of_not_lt fun c => s1 _ (z 1 (by omega)) h3.2.2
   have := sr _ h3.2.1
   have hc := h3.2.2
   unfold cont at hc
   have := h3.1
   unfold u8n at this
   simp only
   repeat' split at this <;> omega
  rw [if_neg h3]
  by_cases h4 : u8n a = 4 ∧ sndOk a ((a :: r).getD 1 0) ∧ cont ((a :: r).getD 2 0) ∧ cont ((a :: r).getD 3 0)
  ·rw [if_pos h4]
   have hl : 3 ≤ r.length := Nat.le_of_not_lt fun c => s1 _ (z 2 (by omega)) h4.2.2.2
   have := sr _ h4.2.1
   have hc := h4.2.2.1
   have hd := h4.2.2.2
   unfold cont at hc hd
   have := h4.1
   unfold u8n at this
   simp only
   repeat' split at this <;> omega
  rw [if_neg h4]
  simp only
  omega
/-- The rune at the front of what came, and how many bytes it has: 0 where it has not ended. -/
def one (en : Int) (L : List Int) : Int × Int :=
 if en = 1 then (if begB L then (0, 0) else dec L)
 else if L.length < 2 then (0, 0)
 else if 56320 ≤ unitB en L ∧ unitB en L ≤ 57343 then (65533, 2)
 else if ¬ (55296 ≤ unitB en L ∧ unitB en L ≤ 56319) then (unitB en L, 2)
 else if L.length < 4 then (0, 0)
 else if ¬ (56320 ≤ unitB en (L.drop 2) ∧ unitB en (L.drop 2) ≤ 57343) then (65533, 2)
 else (65536 + (unitB en L - 55296) * 1024 + unitB en (L.drop 2) - 56320, 4)
theorem unit_rng (en : Int) (L : List Int) (hL : ∀ u ∈ L, 0 ≤ u ∧ u < 256) : 0 ≤ unitB en L ∧ unitB en L ≤ 65535 := by
 have g : ∀ i, 0 ≤ L.getD i 0 ∧ L.getD i 0 < 256 := by
  intro i
  by_cases h : i < L.length
  ·rw [List.getD_eq_getElem?_getD, List.getElem?_eq_getElem h]
   exact hL _ (List.getElem_mem h)
  ·rw [List.getD_eq_getElem?_getD, List.getElem?_eq_none (by omega)]
   simp
 have := g 0
 have := g 1
 unfold unitB
 split <;> omega
theorem p_l2One (en : Int) (S : ByteArray) (hne : yd S ≠ []) (hS : S.size ≤ 4000000000) : zx.f en S = some (one en (yd S)) := by
 unfold zx.f one zw.f zm.f
 have hs := size_bytes S
 have hr := bytes_rng S
 by_cases he : en = 1
 ·have he' : (en == 1) = true := by simpa using he
  rw [if_pos he', if_pos he]
  rw [p_specBegun]
  have hpos : 0 < S.size := by rw [hs]; exact List.length_pos_iff.2 hne
  have e := p_l1At S 0 hpos hS
  rw [show ((0 : Nat) : Int) = 0 from rfl, List.drop_zero] at e
  cases hb : begB (yd S) with
  | true => rfl
  | false => simp [e]
 ·have he' : ¬ (en == 1) = true := by simpa using he
  rw [if_neg he', if_neg he]
  by_cases h2 : (yd S).length < 2
  ·rw [if_pos (by rw [decide_eq_true_eq]; omega), if_pos h2]
  rw [if_neg (by rw [decide_eq_true_eq]; omega), if_neg h2, p_specUnit en S (by omega)]
  have ur := unit_rng en (yd S) hr
  simp only [Option.bind_some, p_l1In]
  by_cases c1 : 56320 ≤ unitB en (yd S) ∧ unitB en (yd S) ≤ 57343
  ·rw [if_pos c1]; simp [c1]
  have d1 : (decide (56320 ≤ unitB en (yd S)) && decide (unitB en (yd S) ≤ 57343)) = false := by simpa using c1
  rw [if_neg c1, d1]
  by_cases c2 : 55296 ≤ unitB en (yd S) ∧ unitB en (yd S) ≤ 56319
  case neg =>
   have d2 : (decide (55296 ≤ unitB en (yd S)) && decide (unitB en (yd S) ≤ 56319)) = false := by simpa using c2
   rw [if_pos c2, d2]; rfl
  have d2 : (decide (55296 ≤ unitB en (yd S)) && decide (unitB en (yd S) ≤ 56319)) = true := by simpa using c2
  rw [if_neg (not_not_intro c2), d2]
  simp only [Bool.false_eq_true, if_false, Bool.not_true]
  by_cases h4 : (yd S).length < 4
  ·rw [if_pos (by rw [decide_eq_true_eq]; omega), if_pos h4]
  rw [if_neg (by rw [decide_eq_true_eq]; omega), if_neg h4]
  obtain ⟨T, t1, t2⟩ := cutS_at S (a := 2) (b := S.size) (by omega) (Nat.le_refl _)
  rw [show ((2 : Nat) : Int) = 2 from rfl] at t1
  rw [hs, List.take_length] at t2
  have hT := size_bytes T
  rw [t2, List.length_drop] at hT
  rw [t1]
  simp only [Option.bind_some]
  rw [p_specUnit en T (by omega), t2]
  have ur2 := unit_rng en ((yd S).drop 2) (fun u hu => hr u (List.mem_of_mem_drop hu))
  simp only [Option.bind_some]
  by_cases c3 : 56320 ≤ unitB en ((yd S).drop 2) ∧ unitB en ((yd S).drop 2) ≤ 57343
  case neg =>
   have d3 : (decide (56320 ≤ unitB en ((yd S).drop 2)) && decide (unitB en ((yd S).drop 2) ≤ 57343)) = false := by simpa using c3
   rw [if_pos c3, d3]; rfl
  have d3 : (decide (56320 ≤ unitB en ((yd S).drop 2)) && decide (unitB en ((yd S).drop 2) ≤ 57343)) = true := by simpa using c3
  rw [if_neg (not_not_intro c3), d3]
  generalize unitB en (yd S) = n at *
  generalize unitB en ((yd S).drop 2) = m at *
  simp only [Bool.not_true, Bool.false_eq_true, if_false]
  rw [yp (n := n - 55296) (by omega) (by omega), yp (n := (n - 55296) * 1024) (by omega) (by omega), yp (n := 65536 + (n - 55296) * 1024) (by omega) (by omega), yp (n := 65536 + (n - 55296) * 1024 + m) (by omega) (by omega), yp (n := 65536 + (n - 55296) * 1024 + m - 56320) (by omega) (by omega)]
/-- A byte of the shifting code. -/
def shf (sh b : Int) : Int := if b < 32 ∨ (b < 128 ∧ sh = 0) then b else if b ≤ 126 then 12352 + b - 32 else 65533
theorem p_specShf (sh b : Int) (hs : sh = 0 ∨ sh = 1) (h0 : 0 ≤ b) (h1 : b < 256) : zv.f sh b = some (shf sh b) := by
 unfold zv.f shf
 rw [yp (n := 12352 + b) (by omega) (by omega), yp (n := 12352 + b - 32) (by omega) (by omega)]
 by_cases a : b < 32
 ·simp [a]
 rcases hs with rfl | rfl
 ·by_cases c : b < 128
  ·simp [a, c]
  ·have f : ¬ b ≤ 126 := by omega
   simp [a, c, f]
 ·by_cases c : b < 128
  ·by_cases f : b ≤ 126 <;> simp [a, c, f]
  ·have f : ¬ b ≤ 126 := by omega
   simp [a, c, f]
theorem one_rng (en : Int) (L : List Int) (hL : ∀ u ∈ L, 0 ≤ u ∧ u < 256) (hne : L ≠ []) : 0 ≤ (one en L).2 ∧ (one en L).2 ≤ 4 ∧ (one en L).2 ≤ L.length := by
 have dr := dec_rng L hL hne
 have d4 : (dec L).2 ≤ 4 := by
  unfold dec
  dsimp only
  (repeat' split) <;> simp
 unfold one
 split
 ·split
  ·simp
  ·exact ⟨by omega, d4, dr.2.2.2⟩
 ·split
  ·simp
  ·split
   ·simp; omega
   ·split
    ·simp; omega
    ·split
     ·simp
     ·split <;> simp <;> omega
theorem dec_ok (L : List Int) (hL : ∀ u ∈ L, 0 ≤ u ∧ u < 256) (hne : L ≠ []) : okRune (dec L).1 = true := by
 have key : 0 ≤ (dec L).1 ∧ (dec L).1 ≤ 1114111 ∧ ¬ (55296 ≤ (dec L).1 ∧ (dec L).1 ≤ 57343) := by
  have dr := dec_rng L hL hne
  refine ⟨dr.1, dr.2.1, ?_⟩
  cases L with
  | nil => exact absurd rfl hne
  | cons a r =>
   have g0 : (a :: r).getD 0 0 = a := rfl
   have sr : ∀ b, sndOk a b → 128 ≤ b ∧ b ≤ 191 ∧ (a = 237 → b ≤ 159) ∧ (a = 240 → 144 ≤ b) := fun b h => by unfold sndOk u8lo u8hi at h; repeat' split at h <;> omega
   unfold dec
   simp only [g0]
   by_cases h1 : a < 128
   ·rw [if_pos h1]; simp only; omega
   rw [if_neg h1]
   by_cases h2 : u8n a = 2 ∧ sndOk a ((a :: r).getD 1 0)
   ·rw [if_pos h2]
    have := sr _ h2.2
    have := h2.1
    unfold u8n at this
    simp only
    repeat' split at this <;> omega
   rw [if_neg h2]
   by_cases h3 : u8n a = 3 ∧ sndOk a ((a :: r).getD 1 0) ∧ cont ((a :: r).getD 2 0)
   ·rw [if_pos h3]
    have := sr _ h3.2.1
    have hc := h3.2.2
    unfold cont at hc
    have := h3.1
    unfold u8n at this
    simp only
    repeat' split at this <;> omega
   rw [if_neg h3]
   by_cases h4 : u8n a = 4 ∧ sndOk a ((a :: r).getD 1 0) ∧ cont ((a :: r).getD 2 0) ∧ cont ((a :: r).getD 3 0)
   ·rw [if_pos h4]
    have := sr _ h4.2.1
    have hc := h4.2.2.1
    have hd := h4.2.2.2
    unfold cont at hc hd
    have := h4.1
    unfold u8n at this
    simp only
    repeat' split at this <;> omega
   rw [if_neg h4]
   simp only
   omega
 simp only [okRune, Bool.and_eq_true, decide_eq_true_eq, Bool.not_eq_true', Bool.and_eq_false_iff, decide_eq_false_iff_not]
 omega
theorem one_ok (en : Int) (L : List Int) (hL : ∀ u ∈ L, 0 ≤ u ∧ u < 256) (hne : L ≠ []) : okRune (one en L).1 = true := by
 have ur := unit_rng en L hL
 have ur2 := unit_rng en (L.drop 2) (fun u hu => hL u (List.mem_of_mem_drop hu))
 unfold one
 split
 ·split
  ·decide
  ·exact dec_ok L hL hne
 ·split
  ·decide
  ·split
   ·decide
   ·split
    ·simp only [okRune, Bool.and_eq_true, decide_eq_true_eq, Bool.not_eq_true', Bool.and_eq_false_iff, decide_eq_false_iff_not]; omega
    ·split
     ·decide
     ·split
      ·decide
      ·simp only [okRune, Bool.and_eq_true, decide_eq_true_eq, Bool.not_eq_true', Bool.and_eq_false_iff, decide_eq_false_iff_not]; omega
/-- What comes of bytes: what is held, the runes, how many bytes each has. -/
def feedU (en : Int) : Nat → List Int → List Int × List Int × List Int
 | 0, L => (L, [], [])
 | k + 1, L => if L = [] ∨ (one en L).2 = 0 then (L, [], []) else
  ((feedU en k (L.drop (one en L).2.toNat)).1, (one en L).1 :: (feedU en k (L.drop (one en L).2.toNat)).2.1, (one en L).2 :: (feedU en k (L.drop (one en L).2.toNat)).2.2)
theorem feedU_fuel (en : Int) : ∀ (k j : Nat) (L : List Int), (∀ u ∈ L, 0 ≤ u ∧ u < 256) → L.length ≤ k → L.length ≤ j → feedU en k L = feedU en j L := by
 intro k
 induction k with
 | zero =>
  intro j L _ h1 _
  have : L = [] := List.eq_nil_of_length_eq_zero (by omega)
  subst this
  cases j with
  | zero => rfl
  | succ j => simp [feedU]
 | succ k ih =>
  intro j L hL h1 h2
  cases j with
  | zero =>
   have : L = [] := List.eq_nil_of_length_eq_zero (by omega)
   subst this
   simp [feedU]
  | succ j =>
   rw [feedU, feedU]
   by_cases h : L = [] ∨ (one en L).2 = 0
   ·rw [if_pos h, if_pos h]
   ·rw [if_neg h, if_neg h]
    have hne : L ≠ [] := fun c => h (.inl c)
    have h0 : (one en L).2 ≠ 0 := fun c => h (.inr c)
    have := one_rng en L hL hne
    have hd : (L.drop (one en L).2.toNat).length = L.length - (one en L).2.toNat := List.length_drop
    have hp : 0 < L.length := List.length_pos_iff.2 hne
    rw [ih j (L.drop (one en L).2.toNat) (fun u hu => hL u (List.mem_of_mem_drop hu)) (by omega) (by omega)]
theorem feedU_len (en : Int) : ∀ (k : Nat) (L : List Int), (∀ u ∈ L, 0 ≤ u ∧ u < 256) → (feedU en k L).2.1.length ≤ L.length ∧ (feedU en k L).2.2.length = (feedU en k L).2.1.length ∧ (feedU en k L).2.1.all okRune = true ∧ (feedU en k L).2.2.all okLong = true := by
 intro k
 induction k with
 | zero => intro L _; simp [feedU]
 | succ k ih =>
  intro L hL
  rw [feedU]
  by_cases h : L = [] ∨ (one en L).2 = 0
  ·rw [if_pos h]; simp
  ·rw [if_neg h]
   have hne : L ≠ [] := fun c => h (.inl c)
   have h0 : (one en L).2 ≠ 0 := fun c => h (.inr c)
   have o := one_rng en L hL hne
   have ok := one_ok en L hL hne
   have hd : (L.drop (one en L).2.toNat).length = L.length - (one en L).2.toNat := List.length_drop
   have hp : 0 < L.length := List.length_pos_iff.2 hne
   obtain ⟨i1, i2, i3, i4⟩ := ih (L.drop (one en L).2.toNat) (fun u hu => hL u (List.mem_of_mem_drop hu))
   refine ⟨by simp only [List.length_cons]; omega, by simp only [List.length_cons, i2], by simp only [List.all_cons, ok, i3, Bool.and_self], ?_⟩
   simp only [List.all_cons, i4, Bool.and_true, okLong, Bool.and_eq_true, decide_eq_true_eq]
   omega
theorem p_specU (en : Int) : ∀ (k j : Nat) (S : ByteArray) (R G : List Int), S.size < k → S.size ≤ j → R.length + S.size ≤ 1000000 → R.length = G.length → ∃ T, zy.l2 en k S R G = some (T, R ++ (feedU en j (yd S)).2.1, G ++ (feedU en j (yd S)).2.2) ∧ yd T = (feedU en j (yd S)).1 := by
 intro k
 induction k with
 | zero => intro j S R G h; omega
 | succ k ih =>
  intro j S R G h hj hR hG
  have hs := size_bytes S
  have hr := bytes_rng S
  rw [zy.l2, strB, bytes_nil]
  by_cases hne : yd S = []
  ·rw [if_neg (by simp [hne])]
   have : feedU en j (yd S) = (yd S, [], []) := by
    cases j with
    | zero => rfl
    | succ j => rw [feedU, if_pos (.inl hne)]
   rw [this]
   exact ⟨S, by simp, rfl⟩
  ·rw [if_pos (by simp [hne]), p_l2One en S hne (by omega)]
   have o := one_rng en (yd S) hr hne
   have hp : 0 < (yd S).length := List.length_pos_iff.2 hne
   obtain ⟨j, rfl⟩ := Nat.exists_eq_succ_of_ne_zero (show j ≠ 0 by omega)
   simp only [Option.bind_some]
   rw [feedU]
   by_cases h0 : (one en (yd S)).2 = 0
   ·rw [if_pos (by simpa using h0), if_pos (.inr h0)]
    exact ⟨S, by simp, rfl⟩
   ·rw [if_neg (by simpa using h0), if_neg (fun c => c.elim hne h0)]
    rw [app?_at (by simp; omega), Option.bind_some, app?_at (by simp; omega), Option.bind_some]
    obtain ⟨T, t1, t2⟩ := cutS_at S (a := (one en (yd S)).2.toNat) (b := S.size) (by omega) (Nat.le_refl _)
    rw [show (((one en (yd S)).2.toNat : Nat) : Int) = (one en (yd S)).2 by omega] at t1
    rw [hs, List.take_length] at t2
    have hT := size_bytes T
    rw [t2, List.length_drop] at hT
    rw [t1, Option.bind_some]
    obtain ⟨U, u1, u2⟩ := ih j T (R ++ [(one en (yd S)).1]) (G ++ [(one en (yd S)).2]) (by omega) (by omega) (by simp; omega) (by simp; omega)
    rw [t2] at u1 u2
    refine ⟨U, ?_, u2⟩
    rw [u1]
    simp
theorem dec_app (L X : List Int) (hne : L ≠ []) (hb : begB L = false) : begB (L ++ X) = false ∧ dec (L ++ X) = dec L := by
 match L, hne, hb with
 | [a], _, hb =>
  have h : u8n a < 2 := by
   simp only [begB, decide_eq_false_iff_not] at hb
   omega
  have h2 : ¬ 2 ≤ u8n a := by omega
  refine ⟨?_, ?_⟩
  ·match X with
   | [] => exact hb
   | [b] => simp [begB]; omega
   | [b, c] => simp [begB]; omega
   | _ :: _ :: _ :: _ => rfl
  ·unfold dec
   simp only [show ([a] ++ X).getD 0 0 = a from rfl, show [a].getD 0 0 = a from rfl]
   by_cases h1 : a < 128
   ·rw [if_pos h1, if_pos h1]
   ·rw [if_neg h1, if_neg h1, if_neg (fun c => by omega), if_neg (fun c => by omega), if_neg (fun c => by omega), if_neg (fun c => by omega), if_neg (fun c => by omega), if_neg (fun c => by omega)]
 | [a, b], _, hb =>
  have h : ¬ (3 ≤ u8n a ∧ sndOk a b) := by
   intro c
   simp [begB, c.1, c.2] at hb
  refine ⟨?_, ?_⟩
  ·match X with
   | [] => exact hb
   | [c] =>
    simp only [begB, List.cons_append, List.nil_append, Bool.and_eq_false_iff, decide_eq_false_iff_not]
    by_cases k : sndOk a b
    ·left; intro c; exact h ⟨by omega, k⟩
    ·right; left; exact k
   | _ :: _ :: _ => rfl
  ·unfold dec
   simp only [show ([a, b] ++ X).getD 0 0 = a from rfl, show [a, b].getD 0 0 = a from rfl, show ([a, b] ++ X).getD 1 0 = b from rfl, show [a, b].getD 1 0 = b from rfl]
   by_cases h1 : a < 128
   ·rw [if_pos h1, if_pos h1]
   rw [if_neg h1, if_neg h1]
   by_cases h2 : u8n a = 2 ∧ sndOk a b
   ·rw [if_pos h2, if_pos h2]
   ·rw [if_neg h2, if_neg h2, if_neg (fun c => h ⟨by omega, c.2.1⟩), if_neg (fun c => h ⟨by omega, c.2.1⟩), if_neg (fun c => h ⟨by omega, c.2.1⟩), if_neg (fun c => h ⟨by omega, c.2.1⟩)]
 | [a, b, c], _, hb =>
  have h : ¬ (4 ≤ u8n a ∧ sndOk a b ∧ cont c) := by
   intro k
   simp [begB, k.1, k.2.1, k.2.2] at hb
  refine ⟨?_, ?_⟩
  ·match X with
   | [] => exact hb
   | _ :: _ => rfl
  ·unfold dec
   simp only [show ([a, b, c] ++ X).getD 0 0 = a from rfl, show [a, b, c].getD 0 0 = a from rfl, show ([a, b, c] ++ X).getD 1 0 = b from rfl, show [a, b, c].getD 1 0 = b from rfl, show ([a, b, c] ++ X).getD 2 0 = c from rfl, show [a, b, c].getD 2 0 = c from rfl]
   by_cases h1 : a < 128
   ·rw [if_pos h1, if_pos h1]
   rw [if_neg h1, if_neg h1]
   by_cases h2 : u8n a = 2 ∧ sndOk a b
   ·rw [if_pos h2, if_pos h2]
   rw [if_neg h2, if_neg h2]
   by_cases h3 : u8n a = 3 ∧ sndOk a b ∧ cont c
   ·rw [if_pos h3, if_pos h3]
   ·rw [if_neg h3, if_neg h3, if_neg (fun k => h ⟨by omega, k.2.1, k.2.2.1⟩), if_neg (fun k => h ⟨by omega, k.2.1, k.2.2.1⟩)]
 | a :: b :: c :: d :: t, _, _ => exact ⟨rfl, rfl⟩
theorem unit_app (en : Int) (L X : List Int) (h : 2 ≤ L.length) : unitB en (L ++ X) = unitB en L := by
 match L, h with
 | a :: b :: t, _ => rfl
theorem one_app (en : Int) (L X : List Int) (hne : L ≠ []) (h : (one en L).2 ≠ 0) : one en (L ++ X) = one en L := by
 unfold one at h ⊢
 by_cases he : en = 1
 ·rw [if_pos he] at h ⊢
  rw [if_pos he]
  cases hb : begB L with
  | true => rw [hb] at h; exact absurd rfl h
  | false =>
   have := dec_app L X hne hb
   rw [this.1, this.2]
 ·rw [if_neg he] at h ⊢
  rw [if_neg he]
  by_cases h2 : L.length < 2
  ·rw [if_pos h2] at h; exact absurd rfl h
  have hl : (L ++ X).length = L.length + X.length := List.length_append
  rw [if_neg h2] at h ⊢
  rw [if_neg (by omega), unit_app en L X (by omega)]
  split
  ·rfl
  ·rename_i c1
   rw [if_neg c1] at h
   split
   ·rfl
   ·rename_i c2
    rw [if_neg c2] at h
    by_cases h4 : L.length < 4
    ·rw [if_pos h4] at h; exact absurd rfl h
    ·have hd : (L.drop 2).length = L.length - 2 := List.length_drop
     rw [if_neg h4, if_neg (by omega), List.drop_append_of_le_length (by omega), unit_app en (L.drop 2) X (by omega)]
theorem feedU_app (en : Int) (X : List Int) (hX : ∀ u ∈ X, 0 ≤ u ∧ u < 256) : ∀ (k : Nat) (L : List Int), (∀ u ∈ L, 0 ≤ u ∧ u < 256) → L.length ≤ k →
  feedU en (k + X.length) (L ++ X) = ((feedU en ((feedU en k L).1.length + X.length) ((feedU en k L).1 ++ X)).1, (feedU en k L).2.1 ++ (feedU en ((feedU en k L).1.length + X.length) ((feedU en k L).1 ++ X)).2.1, (feedU en k L).2.2 ++ (feedU en ((feedU en k L).1.length + X.length) ((feedU en k L).1 ++ X)).2.2) := by
 intro k
 induction k with
 | zero =>
  intro L _ h
  have : L = [] := List.eq_nil_of_length_eq_zero (by omega)
  subst this
  simp [feedU]
 | succ k ih =>
  intro L hL hk
  have hLX : ∀ u ∈ L ++ X, 0 ≤ u ∧ u < 256 := fun u hu => (List.mem_append.1 hu).elim (hL u) (hX u)
  have hl : (L ++ X).length = L.length + X.length := List.length_append
  by_cases h : L = [] ∨ (one en L).2 = 0
  ·have e : feedU en (k + 1) L = (L, [], []) := by rw [feedU, if_pos h]
   rw [e]
   simp only [List.nil_append]
   exact feedU_fuel en _ _ _ hLX (by omega) (by omega)
  ·have hne : L ≠ [] := fun c => h (.inl c)
   have h0 : (one en L).2 ≠ 0 := fun c => h (.inr c)
   have o := one_rng en L hL hne
   have e1 := one_app en L X hne h0
   have ne2 : ¬ (L ++ X = [] ∨ (one en (L ++ X)).2 = 0) := by
    rw [e1]
    intro c
    exact c.elim (fun c => hne (List.append_eq_nil_iff.1 c).1) h0
   have hd : (L.drop (one en L).2.toNat).length = L.length - (one en L).2.toNat := List.length_drop
   rw [show k + 1 + X.length = (k + X.length) + 1 by omega, feedU, if_neg ne2, feedU, if_neg h, e1, List.drop_append_of_le_length (by omega)]
   rw [ih (L.drop (one en L).2.toNat) (fun u hu => hL u (List.mem_of_mem_drop hu)) (by omega)]
   simp only [List.cons_append]
theorem feedU_held (en sh lo : Int) (hen : en = 1 ∨ en = 2 ∨ en = 3) (h0 : okDec en sh lo [] = true) : ∀ (k : Nat) (L : List Int), (∀ u ∈ L, 0 ≤ u ∧ u < 256) → L.length ≤ k → okDec en sh lo (feedU en k L).1 = true := by
 intro k
 induction k with
 | zero =>
  intro L _ h
  have : L = [] := List.eq_nil_of_length_eq_zero (by omega)
  subst this
  exact h0
 | succ k ih =>
  intro L hL hk
  rw [feedU]
  by_cases h : L = [] ∨ (one en L).2 = 0
  ·rw [if_pos h]
   by_cases hne : L = []
   ·rw [hne]; exact h0
   have hz := h.resolve_left hne
   unfold okDec at h0 ⊢
   simp only [if_true, Bool.and_true] at h0
   rw [h0, if_neg hne, Bool.true_and]
   unfold one at hz
   by_cases he : en = 1
   ·rw [if_pos he] at hz ⊢
    cases hb : begB L with
    | true => rfl
    | false =>
     rw [hb] at hz
     have := dec_rng L hL hne
     simp at hz
     omega
   ·rw [if_neg he] at hz ⊢
    have h23 : en = 2 ∨ en = 3 := by omega
    rw [if_pos h23]
    have hp : 0 < L.length := List.length_pos_iff.2 hne
    by_cases h2 : L.length < 2
    ·have : L.length = 1 := by omega
     simp [this]
    rw [if_neg h2] at hz
    split at hz
    ·simp at hz
    ·split at hz
     ·simp at hz
     ·rename_i c2
      split at hz
      ·rename_i h4
       have := Decidable.of_not_not c2
       have l3 : L.length ≤ 3 := by omega
       simp [this.1, this.2, l3]
      ·split at hz <;> simp at hz
  ·rw [if_neg h]
   have hne : L ≠ [] := fun c => h (.inl c)
   have h0 : (one en L).2 ≠ 0 := fun c => h (.inr c)
   have o := one_rng en L hL hne
   have hd : (L.drop (one en L).2.toNat).length = L.length - (one en L).2.toNat := List.length_drop
   exact ih _ (fun u hu => hL u (List.mem_of_mem_drop hu)) (by omega)
/-- What comes of bytes of the one-byte code and of the shifting code: shift, how many bytes turned it last, the runes, how many bytes each has. -/
def feedS (en : Int) : Int → Int → List Int → Int × Int × List Int × List Int
 | sh, lo, [] => (sh, lo, [], [])
 | sh, lo, b :: r => if en = 5 ∧ (b = 14 ∨ b = 15) then feedS en (15 - b) (lo + 1) r else
  ((feedS en sh 0 r).1, (feedS en sh 0 r).2.1, (if en = 5 then shf sh b else b) :: (feedS en sh 0 r).2.2.1, (lo + 1) :: (feedS en sh 0 r).2.2.2)
theorem feedS_app (en : Int) (X : List Int) : ∀ (L : List Int) (sh lo : Int), feedS en sh lo (L ++ X) =
  ((feedS en (feedS en sh lo L).1 (feedS en sh lo L).2.1 X).1, (feedS en (feedS en sh lo L).1 (feedS en sh lo L).2.1 X).2.1,
   (feedS en sh lo L).2.2.1 ++ (feedS en (feedS en sh lo L).1 (feedS en sh lo L).2.1 X).2.2.1, (feedS en sh lo L).2.2.2 ++ (feedS en (feedS en sh lo L).1 (feedS en sh lo L).2.1 X).2.2.2) := by
 intro L
 induction L with
 | nil => intro sh lo; simp [feedS]
 | cons b L ih =>
  intro sh lo
  rw [List.cons_append, feedS, feedS]
  by_cases h : en = 5 ∧ (b = 14 ∨ b = 15)
  ·rw [if_pos h, if_pos h]
   exact ih _ _
  ·rw [if_neg h, if_neg h, ih]
   simp only [List.cons_append]
theorem feedS_lo (en : Int) : ∀ (L : List Int) (sh lo : Int), (feedS en sh lo L).2.1 ≤ 1000 → (feedS en sh lo L).2.2.2.all okLong = true → lo ≤ 1000 := by
 intro L
 induction L with
 | nil => intro sh lo h _; exact h
 | cons b L ih =>
  intro sh lo h1 h2
  rw [feedS] at h1 h2
  by_cases h : en = 5 ∧ (b = 14 ∨ b = 15)
  ·rw [if_pos h] at h1 h2
   have := ih _ _ h1 h2
   omega
  ·rw [if_neg h] at h2
   simp only [List.all_cons, Bool.and_eq_true, okLong, decide_eq_true_eq] at h2
   omega
theorem feedS_len (en : Int) : ∀ (L : List Int) (sh lo : Int), (∀ u ∈ L, 0 ≤ u ∧ u < 256) → (sh = 0 ∨ sh = 1) → 0 ≤ lo → (feedS en sh lo L).2.2.1.length ≤ L.length ∧ (feedS en sh lo L).2.2.2.length = (feedS en sh lo L).2.2.1.length ∧ (feedS en sh lo L).2.2.1.all okRune = true ∧ ((feedS en sh lo L).1 = 0 ∨ (feedS en sh lo L).1 = 1) ∧ 0 ≤ (feedS en sh lo L).2.1 ∧ (feedS en sh lo L).2.1 ≤ lo + L.length := by
 intro L
 induction L with
 | nil => intro sh lo _ hs h; simp [feedS, hs, h]
 | cons b L ih =>
  intro sh lo hL hs h0
  have hb := hL b List.mem_cons_self
  rw [feedS]
  by_cases h : en = 5 ∧ (b = 14 ∨ b = 15)
  ·rw [if_pos h]
   obtain ⟨i1, i2, i3, i4, i5, i6⟩ := ih (15 - b) (lo + 1) (fun u hu => hL u (List.mem_cons_of_mem _ hu)) (by omega) (by omega)
   exact ⟨by simp only [List.length_cons]; omega, i2, i3, i4, i5, by simp only [List.length_cons]; omega⟩
  ·rw [if_neg h]
   obtain ⟨i1, i2, i3, i4, i5, i6⟩ := ih sh 0 (fun u hu => hL u (List.mem_cons_of_mem _ hu)) hs (by omega)
   have ok : okRune (if en = 5 then shf sh b else b) = true := by
    simp only [okRune, Bool.and_eq_true, decide_eq_true_eq, Bool.not_eq_true', Bool.and_eq_false_iff, decide_eq_false_iff_not]
    unfold shf
    repeat' split
    all_goals omega
   exact ⟨by simp only [List.length_cons]; omega, by simp only [List.length_cons, i2], by simp only [List.all_cons, ok, i3, Bool.and_self], i4, i5, by simp only [List.length_cons]; omega⟩
theorem p_specS (en : Int) (hen : en = 4 ∨ en = 5) (S : ByteArray) : ∀ (k i : Nat) (R G : List Int) (sh lo : Int), i ≤ S.size → S.size - i < k → (sh = 0 ∨ sh = 1) → 0 ≤ lo → lo + S.size ≤ 1000000 + i → R.length + S.size ≤ 1000000 + i → R.length = G.length → S.size ≤ 1000000 →
  zy.l1 en S k R G i sh lo = some (R ++ (feedS en sh lo ((yd S).drop i)).2.2.1, G ++ (feedS en sh lo ((yd S).drop i)).2.2.2, (feedS en sh lo ((yd S).drop i)).1, (feedS en sh lo ((yd S).drop i)).2.1) := by
 intro k
 induction k with
 | zero => intro i R G sh lo h1 h2; omega
 | succ k ih =>
  intro i R G sh lo hi hk hsh hlo hl hR hG hS
  have hs := size_bytes S
  rw [zy.l1]
  by_cases h : i < S.size
  ·rw [if_pos (by rw [decide_eq_true_eq]; omega)]
   have hpl : i < (yd S).length := by omega
   have hd := List.drop_eq_getElem_cons hpl
   have hb := bytes_rng S _ (List.getElem_mem hpl)
   have h0 : rdS? S (i : Int) = some (yd S)[i] := by rw [rdS_at, List.getElem?_eq_getElem hpl]
   generalize (yd S)[i] = b at *
   rw [h0, hd, feedS]
   simp only [Option.bind_some]
   rw [yp (n := b) (by omega) (by omega), wrapN i (by omega), yp (n := 15 - b) (by omega) (by omega), yp (n := lo + 1) (by omega) (by omega)]
   by_cases hc : en = 5 ∧ (b = 14 ∨ b = 15)
   ·have e : (if (en == 5) = true then (if (b == 14) = true then (some true) else (some (b == 15))) else (some false)) = some true := by
     rcases hc with ⟨rfl, rfl | rfl⟩ <;> rfl
    rw [e, if_pos hc]
    simp only [Option.bind_some, if_true]
    exact ih (i + 1) R G (15 - b) (lo + 1) (by omega) (by omega) (by omega) (by omega) (by omega) (by omega) hG hS
   ·have e : (if (en == 5) = true then (if (b == 14) = true then (some true) else (some (b == 15))) else (some false)) = some false := by
     by_cases h5 : en = 5
     ·have a1 : b ≠ 14 := fun c => hc ⟨h5, .inl c⟩
      have a2 : b ≠ 15 := fun c => hc ⟨h5, .inr c⟩
      simp [h5, a1, a2]
     ·simp [h5]
    rw [e, if_neg hc, p_specShf sh b hsh hb.1 hb.2]
    have e2 : (if (en == 5) = true then ((some (shf sh b)).bind fun u1201 => some u1201) else (some b)) = some (if en = 5 then shf sh b else b) := by
     by_cases h5 : en = 5 <;> simp [h5]
    simp only [Option.bind_some, Bool.false_eq_true, if_false]
    simp only [Option.bind_some] at e2
    rw [e2, Option.bind_some, app?_at (by simp; omega), Option.bind_some, app?_at (by simp; omega), Option.bind_some, Option.bind_some]
    refine (ih (i + 1) (R ++ [if en = 5 then shf sh b else b]) (G ++ [lo + 1]) sh 0 (by omega) (by omega) hsh (by omega) (by omega) (by simp; omega) (by simp; omega) hS).trans ?_
    simp
  ·rw [if_neg (by rw [decide_eq_true_eq]; omega), List.drop_eq_nil_of_le (by omega)]
   simp [feedS]
/-- What comes of bytes: shift, loose, what is held, the runes, how many bytes each has. -/
def feedD (en sh lo : Int) (H B : List Int) : Int × Int × List Int × List Int × List Int :=
 if en = 4 ∨ en = 5 then ((feedS en sh lo B).1, (feedS en sh lo B).2.1, H, (feedS en sh lo B).2.2.1, (feedS en sh lo B).2.2.2)
 else (sh, lo, feedU en (H.length + B.length) (H ++ B))
theorem okDec_cases {en sh lo : Int} {L : List Int} (h : okDec en sh lo L = true) : 1 ≤ en ∧ en ≤ 5 ∧ (sh = 0 ∨ sh = 1) ∧ 0 ≤ lo ∧ lo ≤ 1000 ∧ (en ≠ 5 → sh = 0 ∧ lo = 0) ∧ (en = 4 ∨ en = 5 → L = []) := by
 unfold okDec at h
 simp only [Bool.and_eq_true, decide_eq_true_eq, Bool.not_eq_true', Bool.and_eq_false_iff, decide_eq_false_iff_not] at h
 obtain ⟨⟨⟨⟨h1, h2⟩, h3⟩, h4⟩, h5⟩ := h
 refine ⟨h1.1, h1.2, by omega, h3.1, h3.2, fun c => ?_, fun c => ?_⟩
 ·rcases h4 with h4 | h4
  ·exact absurd c h4
  ·omega
 ·by_cases hL : L = []
  ·exact hL
  ·rw [if_neg hL, if_neg (by omega), if_neg (by omega)] at h5
   cases h5
theorem p_specFeed (en sh lo : Int) (hd p : ByteArray) (hok : okDec en sh lo (yd hd) = true) (hp : p.size ≤ 1000) : ∃ T, zy.f en sh lo hd p = some (en, (feedD en sh lo (yd hd) (yd p)).1, (feedD en sh lo (yd hd) (yd p)).2.1, T, (feedD en sh lo (yd hd) (yd p)).2.2.2.1, (feedD en sh lo (yd hd) (yd p)).2.2.2.2) ∧ yd T = (feedD en sh lo (yd hd) (yd p)).2.2.1 := by
 obtain ⟨c1, c2, c3, c4, c5, c6, c7⟩ := okDec_cases hok
 have hl := okDec_len hok
 have hs := size_bytes hd
 have hs2 := size_bytes p
 unfold zy.f feedD
 by_cases h : en = 4 ∨ en = 5
 ·have e : (if (en == 4) = true then (some true) else (some (en == 5))) = some true := by rcases h with rfl | rfl <;> rfl
  have := p_specS en h p (((p.size : Int) - 0).toNat + 2) 0 [] [] sh lo (by omega) (by omega) c3 c4 (by omega) (by simp; omega) rfl (by omega)
  rw [show ((0 : Nat) : Int) = 0 from rfl, List.drop_zero, List.nil_append, List.nil_append] at this
  rw [e, if_pos h]
  simp only [Option.bind_some, if_true]
  rw [this]
  exact ⟨hd, rfl, rfl⟩
 ·have e : (if (en == 4) = true then (some true) else (some (en == 5))) = some false := by
   have a : en ≠ 4 := fun c => h (.inl c)
   have b : en ≠ 5 := fun c => h (.inr c)
   simp [a, b]
  obtain ⟨c, k1, k2⟩ := cat_at (n := 1000000000000) (a := hd) (b := p) (by omega)
  have hc := size_bytes c
  rw [k2, List.length_append] at hc
  obtain ⟨T, t1, t2⟩ := p_specU en (hd.size + p.size + 2) ((yd hd).length + (yd p).length) c [] [] (by omega) (by omega) (by simp; omega) rfl
  rw [k2] at t1 t2
  rw [e, if_neg h]
  simp only [Option.bind_some, Bool.false_eq_true, if_false]
  rw [k1]
  simp only [Option.bind_some]
  rw [t1]
  exact ⟨T, by simp, t2⟩
def marks (k : Int) (n : Nat) : List Int := (List.range n).map fun i : Nat => k + i
theorem marks_len (k : Int) (n : Nat) : (marks k n).length = n := by simp [marks]
theorem marks_get (k : Int) (n i : Nat) (h : i < n) : (marks k n)[i]? = some (k + i) := by simp [marks, h]
def w_Buf (u : (Int) × (List (Int)) × (List (Int)) × (Int)) : Int := (wL wZ) u.2.1 + (wL wZ) u.2.2.1
def okw_Buf (u : (Int) × (List (Int)) × (List (Int)) × (Int)) : Prop := (okL okZ) u.2.1 ∧ (okL okZ) u.2.2.1
theorem w_Buf_pos (u : (Int) × (List (Int)) × (List (Int)) × (Int)) : 0 ≤ w_Buf u := by
 unfold w_Buf
 have := (wL_pos wZ_pos) u.2.1
 have := (wL_pos wZ_pos) u.2.2.1
 omega
def w_Decoder (u : (Int) × (Int) × (Int) × (ByteArray)) : Int := wStr u.2.2.2
def okw_Decoder (u : (Int) × (Int) × (Int) × (ByteArray)) : Prop := okStr u.2.2.2
theorem w_Decoder_pos (u : (Int) × (Int) × (Int) × (ByteArray)) : 0 ≤ w_Decoder u := by
 unfold w_Decoder
 have := wStr_pos u.2.2.2
 omega
/-- Whether a session takes bytes: what comes of them, put into its buffer. -/
def fedOk (en sh lo : Int) (H : List Int) (m : Int) (rs ls : List Int) (g : Int) (eof : Bool) (B : List Int) : Bool :=
 okSess en sh lo H m rs ls g eof && !eof && decide ((feedD en sh lo H B).2.1 ≤ 1000) && putOk m rs ls g (feedD en sh lo H B).2.2.2.1 (feedD en sh lo H B).2.2.2.2
theorem feedS4 : ∀ L : List Int, (feedS 4 0 0 L).1 = 0 ∧ (feedS 4 0 0 L).2.1 = 0 := by
 intro L
 induction L with
 | nil => exact ⟨rfl, rfl⟩
 | cons b L ih =>
  rw [feedS, if_neg (by simp)]
  exact ih
theorem feedD_ok (en sh lo : Int) (H B : List Int) (hok : okDec en sh lo H = true) (hH : ∀ u ∈ H, 0 ≤ u ∧ u < 256) (hB : ∀ u ∈ B, 0 ≤ u ∧ u < 256) : (feedD en sh lo H B).2.2.2.1.length ≤ H.length + B.length ∧ (feedD en sh lo H B).2.2.2.2.length = (feedD en sh lo H B).2.2.2.1.length ∧ (feedD en sh lo H B).2.2.2.1.all okRune = true ∧ okDec en (feedD en sh lo H B).1 (feedD en sh lo H B).2.1 (feedD en sh lo H B).2.2.1 = decide ((feedD en sh lo H B).2.1 ≤ 1000) ∧ 0 ≤ (feedD en sh lo H B).2.1 ∧ (feedD en sh lo H B).2.1 ≤ lo + B.length := by
 obtain ⟨c1, c2, c3, c4, c5, c6, c7⟩ := okDec_cases hok
 unfold feedD
 by_cases h : en = 4 ∨ en = 5
 ·rw [if_pos h]
  obtain ⟨i1, i2, i3, i4, i5, i6⟩ := feedS_len en B sh lo hB c3 c4
  refine ⟨by simp only; omega, i2, i3, ?_, i5, i6⟩
  have hH0 := c7 h
  subst hH0
  rcases h with rfl | rfl
  ·obtain ⟨rfl, rfl⟩ := c6 (by decide)
   simp only [(feedS4 B).1, (feedS4 B).2]
   decide
  ·unfold okDec
   generalize (feedS 5 sh lo B).1 = x at *
   generalize (feedS 5 sh lo B).2.1 = y at *
   rcases i4 with rfl | rfl <;> simp [i5]
 ·rw [if_neg h]
  have hHB : ∀ u ∈ H ++ B, 0 ≤ u ∧ u < 256 := fun u hu => (List.mem_append.1 hu).elim (hH u) (hB u)
  have hl : (H ++ B).length = H.length + B.length := List.length_append
  obtain ⟨i1, i2, i3, i4⟩ := feedU_len en (H.length + B.length) (H ++ B) hHB
  have := feedU_held en sh lo (by omega) (okDec_nil hok) (H.length + B.length) (H ++ B) hHB (by omega)
  refine ⟨by simp only; omega, i2, i3, ?_, c4, by simp only; omega⟩
  simp only
  rw [this]
  symm
  simpa using c5
theorem putR_le (m : Int) (rs ls : List Int) (g : Int) (p q : List Int) : (putR m rs ls g p q).2.1.length ≤ rs.length + p.length ∧ (putR m rs ls g p q).2.2.1.length ≤ ls.length + q.length := by
 unfold putR
 split
 ·refine ⟨?_, ?_⟩ <;> (simp <;> omega)
 ·simp
theorem t_Come (a b c : Int) (d : ByteArray) (m : Int) (rs ls : List Int) (g : Int) (p q : List Int) (e : Bool) (hr : rs.length ≤ 2000) (hl : ls.length ≤ 2000) (hp : p.length ≤ 2000) (hq : q.length ≤ 2000) : Tt (z05.f a b c d m rs ls g p q e) fun r => r.2.2.2.2.2.1.length ≤ 5000 ∧ r.2.2.2.2.2.2.1.length ≤ 5000 := by
 unfold z05.f
 rw [p_PutBufS m rs ls g p q (by unfold big; omega) (by unfold big; omega) (by unfold big; omega) (by unfold big; omega)]
 have hb := putR_le m rs ls g p q
 refine (Tt.one (Φ := fun u => u = putR m rs ls g p q) rfl).bind fun u hu => ?_
 subst hu
 refine Tt.bind (Φ := fun _ => True) (Tt.ite (fun _ => .one trivial) (fun _ => ?_)) fun o _ => ?_
 ·rw [p_specSess a b c d _ _ _ _ e (by unfold big; omega) (by unfold big; omega)]
  exact (Tt.one (Φ := fun _ => True) trivial).bind fun _ _ => .one trivial
 ·exact Tt.ite (fun _ => .one ⟨by simp, by simp⟩) (fun _ => .one ⟨by dsimp only; omega, by dsimp only; omega⟩)
theorem t_Feed (en sh lo : Int) (hd : ByteArray) (m : Int) (rs ls : List Int) (g : Int) (eof : Bool) (p : ByteArray) (hr : rs.length ≤ 5000) (hl : ls.length ≤ 5000) (hp : p.size ≤ 900) : Tt (z06.f en sh lo hd m rs ls g eof p) fun r => r.2.2.2.2.2.1.length ≤ 5000 ∧ r.2.2.2.2.2.2.1.length ≤ 5000 := by
 unfold z06.f
 rw [p_specSess en sh lo hd m rs ls g eof (by unfold big; omega) (by unfold big; omega)]
 refine Tt.bind (Φ := fun o => o = false → okSess en sh lo (yd hd) m rs ls g eof = true) ((Tt.one (Φ := fun u => u = okSess en sh lo (yd hd) m rs ls g eof) rfl).bind fun u hu => Tt.ite (fun _ => .one (by intro h; cases h)) (fun hn => .one fun _ => by subst hu; simpa using hn)) fun o ho => ?_
 refine Tt.ite (fun _ => .one ⟨by simp, by simp⟩) (fun hn => ?_)
 have hs := ho (by simpa using hn)
 simp only [okSess, Bool.and_eq_true] at hs
 obtain ⟨⟨hd1, hb1⟩, _⟩ := hs
 simp only [okBuf, Bool.and_eq_true, decide_eq_true_eq, beq_iff_eq] at hb1
 have hlen := okDec_len hd1
 have hsp := size_bytes p
 unfold zz.f zu.f
 rw [p_specDec, hd1]
 have d2 : decide ((p.size : Int) ≤ 1000) = true := by rw [decide_eq_true_eq]; omega
 obtain ⟨T, e2, b2⟩ := p_specFeed en sh lo hd p hd1 (by omega)
 obtain ⟨f1, f2, f3, f4, f5, f6⟩ := feedD_ok en sh lo (yd hd) (yd p) hd1 (bytes_rng hd) (bytes_rng p)
 simp only [Option.bind_some, d2, Bool.not_true, Bool.false_eq_true, if_false]
 rw [e2]
 simp only [Option.bind_some]
 rw [p_specDec]
 simp only [Option.bind_some]
 refine Tt.bind (Φ := fun u => u.2.2.2.2.1.length ≤ 2000 ∧ u.2.2.2.2.2.1.length ≤ 2000) (Tt.ite (fun _ => .one ⟨by simp, by simp⟩) (fun _ => .one ⟨by dsimp only; omega, by dsimp only; omega⟩)) fun u hu => ?_
 refine Tt.ite (fun _ => .one ⟨by simp, by simp⟩) (fun _ => ?_)
 exact (t_Come _ _ _ _ m rs ls g _ _ false (by omega) (by omega) hu.1 hu.2).bind fun v hv => .one hv
theorem t_Flush (en sh lo : Int) (hd : ByteArray) (hs : hd.size ≤ 100) : Tt (z0i.f en sh lo hd) fun r => r.2.2.2.2.1.length ≤ 2000 ∧ r.2.2.2.2.2.length ≤ 2000 := by
 unfold z0i.f
 have key : ∀ (k : Nat) (S : ByteArray) (rs ls : List Int), S.size < k → rs.length + S.size ≤ 100 → ls.length + S.size ≤ 100 → Tt (z0i.l1 en k rs ls S) fun r => r.1.length ≤ 100 ∧ r.2.length ≤ 100 := by
  intro k
  induction k with
  | zero => intro S _ _ h; omega
  | succ k ih =>
   intro S rs ls hk hr hl
   rw [z0i.l1, strB, bytes_nil]
   have hz := size_bytes S
   refine Tt.ite (fun h => ?_) (fun _ => .one ⟨by dsimp only; omega, by dsimp only; omega⟩)
   have hne : (yd S).length ≠ 0 := by
    intro h0
    rw [List.length_eq_zero_iff] at h0
    rw [h0] at h
    simp at h
   refine Tt.bind (Φ := fun n : Int => 1 ≤ n ∧ n ≤ S.size) ?_ fun n hn => ?_
   ·refine Tt.bind (Φ := fun b => b = true → 1 < S.size) ((t_units en).bind fun _ _ => Tt.ite (fun _ => .one fun h => by have := of_decide_eq_true h; omega) (fun _ => .one fun h => by cases h)) fun b hb => ?_
    exact Tt.ite (fun h => .one (by have := hb h; omega)) (fun _ => .one (by omega))
   ·refine (Tt.app (by simp; omega)).bind fun x hx => (Tt.app (by simp; omega)).bind fun y hy => (Tt.cutS (by omega) (by omega) (Int.le_refl _)).bind fun T hT => ?_
    subst hx
    subst hy
    exact ih T _ _ (by omega) (by simp; omega) (by simp; omega)
 refine (key _ hd [] [] (by omega) (by simp; omega) (by simp; omega)).bind fun o ho => ?_
 exact .one ⟨by dsimp only; omega, by dsimp only; omega⟩
theorem t_End (en sh lo : Int) (hd : ByteArray) (m : Int) (rs ls : List Int) (g : Int) (eof : Bool) (hr : rs.length ≤ 5000) (hl : ls.length ≤ 5000) : Tt (z0j.f en sh lo hd m rs ls g eof) fun r => r.2.2.2.2.2.1.length ≤ 5000 ∧ r.2.2.2.2.2.2.1.length ≤ 5000 := by
 unfold z0j.f
 rw [p_specSess en sh lo hd m rs ls g eof (by unfold big; omega) (by unfold big; omega)]
 refine Tt.bind (Φ := fun o => o = false → okSess en sh lo (yd hd) m rs ls g eof = true) ((Tt.one (Φ := fun u => u = okSess en sh lo (yd hd) m rs ls g eof) rfl).bind fun u hu => Tt.ite (fun _ => .one (by intro h; cases h)) (fun hn => .one fun _ => by subst hu; simpa using hn)) fun o ho => ?_
 refine Tt.ite (fun _ => .one ⟨by simp, by simp⟩) (fun hn => ?_)
 have hs := ho (by simpa using hn)
 simp only [okSess, Bool.and_eq_true] at hs
 obtain ⟨⟨hd1, hb1⟩, _⟩ := hs
 simp only [okBuf, Bool.and_eq_true, decide_eq_true_eq, beq_iff_eq] at hb1
 have hlen := okDec_len hd1
 have hz := size_bytes hd
 exact (t_Flush en sh lo hd (by omega)).bind fun u hu => (t_Come _ _ _ _ m rs ls g _ _ true (by omega) (by omega) hu.1 hu.2).bind fun v hv => .one hv
theorem t_simple {code : List Int} (hc : allW (inK .u8) code) {a s en : Int} (h0 : 0 ≤ a) (h1 : a ≤ 1000000000) : Tt (z0h.f code a s en) fun r => r.1.size ≤ 60 ∧ a ≤ r.2.1 ∧ r.2.1 ≤ a + 300 := by
 unfold z0h.f
 refine (t_one hc h0 (by omega)).bind fun x hx => Tt.ite (fun _ => ?_) (fun _ => ?_)
 ·exact (t_coded hc (by omega) (by omega)).bind fun y hy => .one ⟨by dsimp only; omega, by dsimp only; omega, by dsimp only; omega⟩
 refine (t_pick hc (by omega) (by omega)).bind fun y hy => ?_
 have key : ∀ (n f : Nat) (l : List Int) (a s : Int), n < f → 0 ≤ a → a + 10 * n ≤ 1000000000000 → l.length + n ≤ 100000 → Tt (z0h.l1 code f l (n : Int) a s) fun r => r.1.length = l.length + n ∧ a ≤ r.2.1 ∧ r.2.1 ≤ a + 10 * n := by
  intro n
  induction n with
  | zero =>
   intro f l a s hf ha ha2 hl
   obtain ⟨f, rfl⟩ := Nat.exists_eq_succ_of_ne_zero (show f ≠ 0 by omega)
   rw [z0h.l1, if_neg (by simp)]
   exact .one ⟨by dsimp only; omega, by dsimp only; omega, by dsimp only; omega⟩
  | succ n ih =>
   intro f l a s hf ha ha2 hl
   obtain ⟨f, rfl⟩ := Nat.exists_eq_succ_of_ne_zero (show f ≠ 0 by omega)
   rw [z0h.l1, if_pos (by simp <;> omega)]
   refine (t_among hc (by decide) ha (by omega)).bind fun x hx => ?_
   refine (Tt.app (by simp; omega)).bind fun y hy => ?_
   subst hy
   rw [yp (by omega) (by omega), show ((n + 1 : Nat) : Int) - 1 = (n : Int) by omega]
   exact (ih f _ _ _ (by omega) (by omega) (by omega) (by simp; omega)).mono fun r hr => ⟨by rw [hr.1]; simp; omega, by omega, by omega⟩
 obtain ⟨n, b1, s1⟩ := y
 dsimp only at *
 obtain ⟨n, rfl⟩ := Int.eq_ofNat_of_zero_le hy.1
 have hn := hy.2.1 (by decide)
 refine (key n _ [] b1 s1 (by omega) (by omega) (by omega) (by simp; omega)).bind fun o ho => ?_
 obtain ⟨l, a2, s2⟩ := o
 dsimp only at *
 rw [List.length_nil] at ho
 exact (t_Encode en l (by omega)).bind fun e he => .one ⟨by dsimp only; omega, by dsimp only; omega, by dsimp only; omega⟩
theorem t_New (en m : Int) : Tt (zt.f en m) fun r => r.2.2.2.2.2.1.length ≤ 5000 ∧ r.2.2.2.2.2.2.1.length ≤ 5000 := by
 unfold zt.f
 rw [p_specSess en 0 0 _ m [] [] 0 false (by decide) (by decide)]
 exact (Tt.one (Φ := fun _ => True) trivial).bind fun _ _ => Tt.ite (fun _ => .one ⟨by simp, by simp⟩) (fun _ => .one ⟨by simp, by simp⟩)
theorem t_session {code : List Int} (hc : allW (inK .u8) code) {a s : Int} (h0 : 0 ≤ a) (h1 : a ≤ 10000000) : Tt (z0k.f code a s) fun r => r.2.2.2.2.2.1.length ≤ 5000 ∧ r.2.2.2.2.2.2.1.length ≤ 5000 ∧ a ≤ r.2.2.2.2.2.2.2.2.2.1 ∧ r.2.2.2.2.2.2.2.2.2.1 ≤ a + 2000 := by
 unfold z0k.f
 refine (t_pick hc h0 (by omega)).bind fun x hx => (t_among hc (by decide) (by omega) (by omega)).bind fun y hy => (t_New _ _).bind fun z hz => (t_pick hc (by omega) (by omega)).bind fun w hw => ?_
 obtain ⟨n, b1, s1⟩ := w
 obtain ⟨z1, z2, z3, z4, z5, z6, z7, z8, z9, z10⟩ := z
 dsimp only at *
 obtain ⟨n, rfl⟩ := Int.eq_ofNat_of_zero_le hw.1
 have hn := hw.2.1 (by decide)
 have key : ∀ (n f : Nat) (a s z1 z2 z3 : Int) (z4 : ByteArray) (z5 : Int) (z6 z7 : List Int) (z8 : Int) (z9 : Bool), n < f → 0 ≤ a → a + 400 * n ≤ 100000000 → z6.length ≤ 5000 → z7.length ≤ 5000 → Tt (z0k.l1 code f (n : Int) a s z1 z2 z3 z4 z5 z6 z7 z8 z9) fun r => r.2.2.2.2.2.2.2.1.length ≤ 5000 ∧ r.2.2.2.2.2.2.2.2.1.length ≤ 5000 ∧ a ≤ r.1 ∧ r.1 ≤ a + 400 * n := by
  intro n
  induction n with
  | zero =>
   intro f a s z1 z2 z3 z4 z5 z6 z7 z8 z9 hf ha ha2 h6 h7
   obtain ⟨f, rfl⟩ := Nat.exists_eq_succ_of_ne_zero (show f ≠ 0 by omega)
   rw [z0k.l1, if_neg (by simp)]
   exact .one ⟨h6, h7, by dsimp only; omega, by dsimp only; omega⟩
  | succ n ih =>
   intro f a s z1 z2 z3 z4 z5 z6 z7 z8 z9 hf ha ha2 h6 h7
   obtain ⟨f, rfl⟩ := Nat.exists_eq_succ_of_ne_zero (show f ≠ 0 by omega)
   rw [z0k.l1, if_pos (by simp <;> omega)]
   refine Tt.bind (Φ := fun r : Int × Int × Int × Int × Int × ByteArray × Int × (List (Int)) × (List (Int)) × Int × Bool => r.2.2.2.2.2.2.2.1.length ≤ 5000 ∧ r.2.2.2.2.2.2.2.2.1.length ≤ 5000 ∧ a ≤ r.1 ∧ r.1 ≤ a + 400) ?_ fun o ho => ?_
   ·refine Tt.bind (Φ := fun r : Bool × Int × Int × Int × Int × Int × ByteArray × Int × (List (Int)) × (List (Int)) × Int × Bool => r.2.2.2.2.2.2.2.2.1.length ≤ 5000 ∧ r.2.2.2.2.2.2.2.2.2.1.length ≤ 5000 ∧ a ≤ r.2.1 ∧ r.2.1 ≤ a + 400) ?_ fun o ho => ?_
    ·refine (t_simple hc ha (by omega)).bind fun x hx => (t_Feed z1 z2 z3 z4 z5 z6 z7 z8 z9 x.1 h6 h7 (by omega)).bind fun y hy => .one ⟨hy.1, hy.2, by dsimp only; omega, by dsimp only; omega⟩
    ·obtain ⟨o0, o1, o2, o3, o4, o5, o6, o7, o8, o9, o10, o11⟩ := o
     dsimp only at *
     exact Tt.ite (fun _ => .one ho) (fun _ => .one ⟨h6, h7, ho.2.2⟩)
   ·obtain ⟨o1, o2, o3, o4, o5, o6, o7, o8, o9, o10, o11⟩ := o
    dsimp only at *
    rw [yp (by omega) (by omega), show ((n + 1 : Nat) : Int) - 1 = (n : Int) by omega]
    exact (ih f _ _ _ _ _ _ _ _ _ _ _ (by omega) (by omega) (by omega) ho.1 ho.2.1).mono fun r hr => ⟨hr.1, hr.2.1, by omega, by omega⟩
 refine (key n _ b1 s1 z1 z2 z3 z4 z5 z6 z7 z8 z9 (by omega) (by omega) (by omega) hz.1 hz.2).bind fun o ho => ?_
 obtain ⟨o1, o2, o3, o4, o5, o6, o7, o8, o9, o10, o11⟩ := o
 dsimp only at *
 refine Tt.bind (Φ := fun r : Int × Int × Int × Int × Int × ByteArray × Int × (List (Int)) × (List (Int)) × Int × Bool => r.2.2.2.2.2.2.2.1.length ≤ 5000 ∧ r.2.2.2.2.2.2.2.2.1.length ≤ 5000 ∧ a ≤ r.1 ∧ r.1 ≤ a + 1500) ?_ fun o ho => ?_
 ·refine (t_End o3 o4 o5 o6 o7 o8 o9 o10 o11 ho.1 ho.2.1).bind fun e he => ?_
  refine Tt.bind (Φ := fun r : Bool × Int × Int => a ≤ r.2.1 ∧ r.2.1 ≤ a + 1500) (Tt.ite (fun _ => ?_) (fun _ => .one ⟨by dsimp only; omega, by dsimp only; omega⟩)) fun o ho2 => ?_
  ·exact (t_one hc (by omega) (by omega)).bind fun y hy => .one ⟨by dsimp only; omega, by dsimp only; omega⟩
  ·obtain ⟨b, a', s'⟩ := o
   dsimp only at *
   exact Tt.ite (fun _ => .one ⟨he.1, he.2, ho2⟩) (fun _ => .one ⟨ho.1, ho.2.1, ho2⟩)
 obtain ⟨o1, o2, o3, o4, o5, o6, o7, o8, o9, o10, o11⟩ := o
 dsimp only at *
 refine Tt.bind (Φ := fun r : ByteArray × Int × Int × Int => a ≤ r.2.2.1 ∧ r.2.2.1 ≤ a + 2000) ?_ fun o ho2 => ?_
 ·refine (t_pick hc (by omega) (by omega)).bind fun x hx => Tt.ite (fun _ => .one ⟨by dsimp only; omega, by dsimp only; omega⟩) (fun _ => Tt.ite (fun _ => .one ⟨by dsimp only; omega, by dsimp only; omega⟩) (fun _ => .one ⟨by dsimp only; omega, by dsimp only; omega⟩))
 obtain ⟨q1, q2, q3, q4⟩ := o
 exact .one ⟨ho.1, ho.2.1, ho2⟩
theorem p_least (a b : Int) : z0l.f a b = some (min a b) := by
 unfold z0l.f
 by_cases h : a < b
 ·rw [if_pos (by simpa using h), Int.min_eq_left (by omega)]
 ·rw [if_neg (by simpa using h), Int.min_eq_right (by omega)]
theorem p_most2 (a b : Int) : Tt (z01.f a b) fun _ => True := by
 unfold z01.f
 exact Tt.ite (fun _ => .one trivial) (fun _ => .one trivial)
theorem t_least (a b : Int) : Tt (z0l.f a b) fun _ => True := ⟨_, p_least a b, trivial⟩
theorem t_l4Add (p : List Int) (a b : Int) (hp : p.length ≤ 1000) (he : p.length % 2 = 0) : Tt (z0m.f p a b) fun r => r.length ≤ p.length + 2 ∧ r.length % 2 = 0 := by
 unfold z0m.f
 have k1 : ∀ (k i : Nat) (a b : Int) (out : List Int), i ≤ p.length → p.length - i < k → i % 2 = 0 → out.length ≤ i → out.length % 2 = 0 → Tt (z0m.l1 p k a b out i) fun r => r.2.2.length ≤ p.length ∧ r.2.2.length % 2 = 0 := by
  intro k
  induction k with
  | zero => intro i a b out _ h; omega
  | succ k ih =>
   intro i a b out hi hk h2 ho ho2
   rw [z0m.l1]
   refine Tt.ite (fun h => ?_) (fun _ => .one ⟨by dsimp only; omega, ho2⟩)
   have h : i < p.length := by have := of_decide_eq_true h; omega
   rw [wrapN i (by omega)]
   have g1 : Tt (rd? p (i : Int)) fun _ => True := (Tt.rd (by omega) (by omega)).mono fun _ _ => trivial
   have g2 : Tt (rd? p ((i + 1 : Nat) : Int)) fun _ => True := (Tt.rd (by omega) (by omega)).mono fun _ _ => trivial
   refine Tt.bind (Φ := fun o : Int × Int × List Int => o.2.2.length ≤ i + 2 ∧ o.2.2.length % 2 = 0) ?_ fun o ho' => ?_
   ·refine Tt.bind (Φ := fun _ => True) (g2.bind fun _ _ => Tt.ite (fun _ => .one trivial) (fun _ => g1.bind fun _ _ => .one trivial)) fun o _ => Tt.ite (fun _ => ?_) (fun _ => ?_)
    ·exact g1.bind fun _ _ => g2.bind fun _ _ => (Tt.app (by simp; omega)).bind fun x hx => .one (by subst hx; simp; omega)
    ·exact g1.bind fun _ _ => (t_least _ _).bind fun _ _ => g2.bind fun _ _ => (p_most2 _ _).bind fun _ _ => .one ⟨by dsimp only; omega, ho2⟩
   ·obtain ⟨x, y, z⟩ := o
    dsimp only at *
    rw [yp (by omega) (by omega), show ((i : Int) + 2) = ((i + 2 : Nat) : Int) by omega]
    exact ih (i + 2) x y z (by omega) (by omega) (by omega) ho'.1 ho'.2
 refine (k1 _ 0 a b [] (by omega) (by omega) rfl (by simp) rfl).bind fun o ho => ?_
 obtain ⟨x, y, z⟩ := o
 dsimp only at *
 have k2 : ∀ (k i : Nat), i ≤ z.length → z.length - i < k → i % 2 = 0 → Tt (z0m.l2 x z k i) fun r => 0 ≤ r ∧ r ≤ z.length ∧ r % 2 = 0 := by
  intro k
  induction k with
  | zero => intro i _ h; omega
  | succ k ih =>
   intro i hi hk h2
   rw [z0m.l2]
   refine Tt.bind (Φ := fun b => b = true → i < z.length) (Tt.ite (fun h => ?_) (fun _ => .one fun h => by cases h)) fun b hb => ?_
   ·have h : i < z.length := by have := of_decide_eq_true h; omega
    exact (Tt.rd (by omega) (by omega)).bind fun _ _ => .one fun _ => h
   ·refine Tt.ite (fun h => ?_) (fun _ => .one ⟨by omega, by omega, by omega⟩)
    have h := hb h
    rw [yp (by omega) (by omega), show ((i : Int) + 2) = ((i + 2 : Nat) : Int) by omega]
    exact ih (i + 2) (by omega) (by omega) (by omega)
 refine (k2 _ 0 (by omega) (by omega) rfl).bind fun q hq => ?_
 obtain ⟨q, rfl⟩ := Int.eq_ofNat_of_zero_le hq.1
 have c1 : cut? z 0 (q : Int) = some (z.take q) := cut0 (by omega)
 have c2 : cut? z (q : Int) (z.length : Int) = some (z.drop q) := cutE (by omega)
 rw [c1, c2]
 refine (Tt.one (Φ := fun w => w = z.take q) rfl).bind fun w hw => ?_
 subst hw
 rw [p_own _ (by unfold big; simp; omega)]
 refine (Tt.one (Φ := fun w => w = z.take q) rfl).bind fun w hw => ?_
 subst hw
 refine (Tt.app (by simp; omega)).bind fun w hw => ?_
 subst hw
 refine (Tt.one (Φ := fun w => w = z.drop q) rfl).bind fun w hw => ?_
 subst hw
 refine (Tt.app (by simp; omega)).bind fun w hw => .one ?_
 subst hw
 simp
 omega
theorem t_l4Not (p : List Int) (hp : p.length ≤ 1000) (he : p.length % 2 = 0) : Tt (z0n.f p) fun r => r.length ≤ p.length + 2 ∧ r.length % 2 = 0 := by
 unfold z0n.f
 have k1 : ∀ (k i : Nat) (a : Int) (out : List Int), i ≤ p.length → p.length - i < k → i % 2 = 0 → out.length ≤ i → out.length % 2 = 0 → Tt (z0n.l1 p k out a i) fun r => r.1.length ≤ p.length ∧ r.1.length % 2 = 0 := by
  intro k
  induction k with
  | zero => intro i a out _ h; omega
  | succ k ih =>
   intro i a out hi hk h2 ho ho2
   rw [z0n.l1]
   refine Tt.ite (fun h => ?_) (fun _ => .one ⟨by dsimp only; omega, ho2⟩)
   have h : i < p.length := by have := of_decide_eq_true h; omega
   rw [wrapN i (by omega)]
   have g1 : Tt (rd? p (i : Int)) fun _ => True := (Tt.rd (by omega) (by omega)).mono fun _ _ => trivial
   have g2 : Tt (rd? p ((i + 1 : Nat) : Int)) fun _ => True := (Tt.rd (by omega) (by omega)).mono fun _ _ => trivial
   refine Tt.bind (Φ := fun o : List Int => o.length ≤ i + 2 ∧ o.length % 2 = 0) ?_ fun o ho' => ?_
   ·refine g1.bind fun _ _ => Tt.ite (fun _ => ?_) (fun _ => .one ⟨by omega, ho2⟩)
    exact g1.bind fun _ _ => (Tt.app (by simp; omega)).bind fun x hx => .one (by subst hx; simp; omega)
   ·refine g2.bind fun _ _ => ?_
    rw [yp (n := (i : Int) + 2) (by omega) (by omega), show ((i : Int) + 2) = ((i + 2 : Nat) : Int) by omega]
    exact ih (i + 2) _ o (by omega) (by omega) (by omega) ho'.1 ho'.2
 refine (k1 _ 0 0 [] (by omega) (by omega) rfl (by simp) rfl).bind fun o ho => ?_
 obtain ⟨x, y⟩ := o
 dsimp only at *
 refine Tt.bind (Φ := fun o : List Int => o.length ≤ p.length + 2 ∧ o.length % 2 = 0) (Tt.ite (fun _ => ?_) (fun _ => .one ⟨by omega, ho.2⟩)) fun o ho => .one ho
 exact (Tt.app (by simp; omega)).bind fun x hx => .one (by subst hx; simp; omega)
theorem Tt.st {α : Type} {xs : List α} {i : Int} {x : α} (h0 : 0 ≤ i) (h : i < xs.length) : Tt (st? xs i x) fun r => r.length = xs.length ∧ ∀ y ∈ r, y = x ∨ y ∈ xs := by
 obtain ⟨k, rfl⟩ := Int.eq_ofNat_of_zero_le h0
 have hk : k < xs.length := by omega
 refine ⟨_, st?_at x hk, by simp, fun y hy => ?_⟩
 rcases List.mem_or_eq_of_mem_set hy with h | h
 ·exact .inr h
 ·exact .inl h
theorem t_set {code : List Int} (hc : allW (inK .u8) code) {a s : Int} (h0 : 0 ≤ a) (h1 : a ≤ 100000000000) : Tt (z0o.f code a s) fun r => r.1.length ≤ 20 ∧ a ≤ r.2.1 ∧ r.2.1 ≤ a + 40 := by
 unfold z0o.f
 refine (t_pick hc h0 (by omega)).bind fun x hx => ?_
 have key : ∀ (n f : Nat) (l : List Int) (a s : Int), n < f → 0 ≤ a → a + 4 * n ≤ 1000000000000 → l.length + 2 * n ≤ 100 → l.length % 2 = 0 → Tt (z0o.l1 code f l (n : Int) a s) fun r => r.1.length ≤ l.length + 2 * n ∧ r.1.length % 2 = 0 ∧ a ≤ r.2.1 ∧ r.2.1 ≤ a + 4 * n := by
  intro n
  induction n with
  | zero =>
   intro f l a s hf ha ha2 hl he
   obtain ⟨f, rfl⟩ := Nat.exists_eq_succ_of_ne_zero (show f ≠ 0 by omega)
   rw [z0o.l1, if_neg (by simp)]
   exact .one ⟨by dsimp only; omega, he, by dsimp only; omega, by dsimp only; omega⟩
  | succ n ih =>
   intro f l a s hf ha ha2 hl he
   obtain ⟨f, rfl⟩ := Nat.exists_eq_succ_of_ne_zero (show f ≠ 0 by omega)
   rw [z0o.l1, if_pos (by simp <;> omega)]
   refine (t_among hc (by decide) ha (by omega)).bind fun x hx => (t_among hc (by decide) (by omega) (by omega)).bind fun y hy => (t_least _ _).bind fun z _ => (t_l4Add l _ _ (by omega) he).bind fun w hw => ?_
   rw [yp (by omega) (by omega), show ((n + 1 : Nat) : Int) - 1 = (n : Int) by omega]
   exact (ih f w _ _ (by omega) (by omega) (by omega) (by omega) hw.2).mono fun r hr => ⟨by omega, hr.2.1, by omega, by omega⟩
 obtain ⟨n, b1, s1⟩ := x
 dsimp only at *
 obtain ⟨n, rfl⟩ := Int.eq_ofNat_of_zero_le hx.1
 have hn := hx.2.1 (by decide)
 refine (key n _ [] b1 s1 (by omega) (by omega) (by omega) (by simp; omega) rfl).bind fun o ho => ?_
 obtain ⟨l, a2, s2⟩ := o
 dsimp only at *
 rw [List.length_nil] at ho
 refine Tt.bind (Φ := fun r : List Int × Int × Int => r.1.length ≤ 20 ∧ a ≤ r.2.1 ∧ r.2.1 ≤ a + 20) ?_ fun o ho => ?_
 ·refine (t_one hc (by omega) (by omega)).bind fun x hx => Tt.ite (fun _ => ?_) (fun _ => .one ⟨by dsimp only; omega, by dsimp only; omega, by dsimp only; omega⟩)
  exact (t_l4Not l (by omega) ho.2.1).bind fun y hy => .one ⟨by dsimp only; omega, by dsimp only; omega, by dsimp only; omega⟩
 obtain ⟨l, a2, s2⟩ := o
 dsimp only at *
 refine Tt.bind (Φ := fun r : List Int × Int × Int => r.1.length ≤ 20 ∧ a ≤ r.2.1 ∧ r.2.1 ≤ a + 40) ?_ fun o ho => .one ho
 refine Tt.bind (Φ := fun r : Bool × Int × Int => (r.1 = true → 0 < l.length) ∧ a ≤ r.2.1 ∧ r.2.1 ≤ a + 30) (Tt.ite (fun h => ?_) (fun _ => .one ⟨(by intro h; cases h), by dsimp only; omega, by dsimp only; omega⟩)) fun o ho => ?_
 ·exact (t_one hc (by omega) (by omega)).bind fun y hy => .one ⟨fun _ => by have := of_decide_eq_true h; omega, by dsimp only; omega, by dsimp only; omega⟩
 ·obtain ⟨b, a', s'⟩ := o
  dsimp only at *
  refine Tt.ite (fun hb => ?_) (fun _ => .one ⟨by dsimp only; omega, by dsimp only; omega, by dsimp only; omega⟩)
  have hl := ho.1 hb
  exact (t_among hc (by decide) (by omega) (by omega)).bind fun y hy => (Tt.rd (by decide) (by omega)).bind fun _ _ => (Tt.st (by decide) (by omega)).bind fun w hw => .one ⟨by dsimp only; omega, by dsimp only; omega, by dsimp only; omega⟩
/-- A pattern of few nodes with small sets. -/
def smRe (n : Nat) (p : List Nd) : Prop := p.length ≤ n ∧ ∀ u ∈ p, u.2.length ≤ 40
theorem smRe.app {n m : Nat} {p q : List Nd} (h : smRe n p) (k : smRe m q) : smRe (n + m) (p ++ q) := ⟨by rw [List.length_append]; have := h.1; have := k.1; omega, fun u hu => (List.mem_append.1 hu).elim (h.2 u) (k.2 u)⟩
theorem smRe.one {u : Nd} (h : u.2.length ≤ 40) : smRe 1 [u] := ⟨Nat.le_refl 1, fun v hv => by rw [List.mem_singleton.1 hv]; exact h⟩
theorem smRe.mono {n m : Nat} {p : List Nd} (h : smRe n p) (k : n ≤ m) : smRe m p := ⟨Nat.le_trans h.1 k, h.2⟩
theorem t_arity (k : Int) : Tt (z0q.f k) fun _ => True := ⟨_, p_arity k, trivial⟩
def szR : Nat → Nat
 | 0 => 2
 | n + 1 => 2 * szR n
theorem szR_bd : ∀ n, n ≤ 11 → 2 ≤ szR n ∧ szR n ≤ 4096
 | 0, _ => by decide
 | 1, _ => by decide
 | 2, _ => by decide
 | 3, _ => by decide
 | 4, _ => by decide
 | 5, _ => by decide
 | 6, _ => by decide
 | 7, _ => by decide
 | 8, _ => by decide
 | 9, _ => by decide
 | 10, _ => by decide
 | 11, _ => by decide
 | n + 12, h => by omega
theorem t_re {code : List Int} (hc : allW (inK .u8) code) (pl : Bool) : ∀ (n : Nat), n ≤ 10 → ∀ (k : Nat) (a s : Int), n < k → 0 ≤ a → a + 50 * szR n ≤ 1000000 → Tt (z0r.r k code a s (n : Int) pl) fun r => smRe (szR n - 1) r.1 ∧ a ≤ r.2.1 ∧ r.2.1 ≤ a + 50 * szR n - 10 := by
 have leaf : ∀ (a a1 s1 : Int), a ≤ a1 → a1 ≤ a + 2 → 0 ≤ a → a ≤ 1000000 → Tt ((zb.f code a1 s1 8).bind fun u74 => if (u74.1 == 0) = true then (some ([(1, [])], u74.2.1, u74.2.2)) else (if (u74.1 == 1) = true then ((z0o.f code u74.2.1 u74.2.2).bind fun u82 => (((zo.f u82.1).bind fun u101 => if (!u101) = true then (some true) else ((z0p.f u82.1).bind fun u103 => some (!u103))).bind fun (o : Bool) => match o with | x100 => (if x100 = true then (some []) else (some u82.1))).bind fun (o : List Int) => match o with | x95 => (some ([(2, x95)], u82.2.1, u82.2.2))) else (if (u74.1 == 2) = true then (some ([(2, [0, 1114111])], u74.2.1, u74.2.2)) else ((zc.f code u74.2.1 u74.2.2 [97, 97, 98, 99, 65, 12354, 42, 45]).bind fun u116 => some ([(2, [u116.1, u116.1])], u116.2.1, u116.2.2))))) (fun r : List Nd × Int × Int => smRe 1 r.1 ∧ a ≤ r.2.1 ∧ r.2.1 ≤ a + 60) := by
  intro a a1 s1 g1 g2 h0 h1
  refine (t_pick hc (by omega) (by omega)).bind fun x hx => Tt.ite (fun _ => ?_) (fun _ => Tt.ite (fun _ => ?_) (fun _ => Tt.ite (fun _ => ?_) (fun _ => ?_)))
  ·exact .one ⟨smRe.one (by simp), by dsimp only; omega, by dsimp only; omega⟩
  ·refine (t_set hc (by omega) (by omega)).bind fun y hy => ?_
   refine Tt.bind (Φ := fun l : List Int => l.length ≤ 20) ?_ fun l hl => .one ⟨smRe.one (by dsimp only; omega), by dsimp only; omega, by dsimp only; omega⟩
   refine Tt.bind (Φ := fun _ => True) ?_ fun _ _ => Tt.ite (fun _ => .one (by simp)) (fun _ => .one hy.1)
   rw [p_allRunes _ (by unfold big; omega), p_specSet _ (by unfold big; omega)]
   exact (Tt.one (Φ := fun _ => True) trivial).bind fun _ _ => Tt.ite (fun _ => .one trivial) (fun _ => (Tt.one (Φ := fun _ => True) trivial).bind fun _ _ => .one trivial)
  ·exact .one ⟨smRe.one (by simp), by dsimp only; omega, by dsimp only; omega⟩
  ·exact (t_among hc (by decide) (by omega) (by omega)).bind fun y hy => .one ⟨smRe.one (by simp), by dsimp only; omega, by dsimp only; omega⟩
 intro n
 induction n with
 | zero =>
  intro _ k a s hk h0 h1
  obtain ⟨k, rfl⟩ := Nat.exists_eq_succ_of_ne_zero (show k ≠ 0 by omega)
  rw [z0r.r]
  unfold z0r.b
  refine (Tt.one (Φ := fun o => o = (true, a, s)) rfl).bind fun o ho => ?_
  subst ho
  dsimp only
  refine Tt.ite (fun _ => ?_) (fun h => absurd rfl h)
  simp only [szR] at h1
  exact (leaf a a s (by omega) (by omega) h0 (by omega)).mono fun r hr => ⟨hr.1.mono (by decide), hr.2.1, by have := hr.2.2; simp only [szR]; omega⟩
 | succ n ih =>
  intro hn k a s hk h0 h1
  obtain ⟨k, rfl⟩ := Nat.exists_eq_succ_of_ne_zero (show k ≠ 0 by omega)
  rw [z0r.r]
  unfold z0r.b
  have hb := szR_bd n (by omega)
  have ih := ih (by omega)
  have hw : IntKind.i64.wrap (((n + 1 : Nat) : Int) - 1) = (n : Int) := by rw [yp (by omega) (by omega)]; omega
  have hne : (((n + 1 : Nat) : Int) == 0) = false := by rw [beq_eq_false_iff_ne]; omega
  rw [hne, szR]
  rw [szR] at h1
  generalize szR n = N at *
  refine Tt.bind (Φ := fun o : Bool × Int × Int => a ≤ o.2.1 ∧ o.2.1 ≤ a + 2) (Tt.ite (fun h => by cases h) (fun _ => (t_one hc h0 (by omega)).bind fun u hu => .one ⟨by dsimp only; omega, by dsimp only; omega⟩)) fun o ho => ?_
  obtain ⟨b, a1, s1⟩ := o
  dsimp only at *
  refine Tt.ite (fun _ => ?_) (fun _ => ?_)
  ·exact (leaf a a1 s1 ho.1 ho.2 h0 (by omega)).mono fun r hr => ⟨hr.1.mono (by omega), hr.2.1, by omega⟩
  refine (t_among hc (by decide) (by omega) (by omega)).bind fun x hx => ?_
  refine Tt.bind (Φ := fun _ => True) (Tt.bind (Φ := fun _ => True) (Tt.ite (fun _ => Tt.ite (fun _ => .one trivial) (fun _ => .one trivial)) (fun _ => .one trivial)) fun _ _ => Tt.ite (fun _ => .one trivial) (fun _ => .one trivial)) fun op _ => ?_
  rw [hw]
  refine (ih k x.2.1 x.2.2 (by omega) (by omega) (by omega)).bind fun u hu => ?_
  refine Tt.bind (Φ := fun r : List Nd × Int × Int => smRe (2 * (N - 1)) r.1 ∧ a ≤ r.2.1 ∧ r.2.1 ≤ a + 4 + 2 * (50 * N - 10)) ?_ fun o ho => ?_
  ·refine (t_arity op).bind fun _ _ => Tt.ite (fun _ => ?_) (fun _ => .one ⟨hu.1.mono (by omega), by dsimp only; omega, by dsimp only; omega⟩)
   refine (ih k u.2.1 u.2.2 (by omega) (by omega) (by omega)).bind fun v hv => ?_
   refine (Tt.app (by have := hu.1.1; have := hv.1.1; omega)).bind fun y hy => .one ⟨?_, by dsimp only; omega, by dsimp only; omega⟩
   subst hy
   exact (hu.1.app hv.1).mono (by omega)
  ·obtain ⟨l, a2, s2⟩ := o
   dsimp only at *
   refine (Tt.app (ys := [((op, []) : Nd)]) (by have := ho.1.1; simp; omega)).bind fun y hy => .one ⟨?_, by dsimp only; omega, by dsimp only; omega⟩
   subst hy
   exact (ho.1.app (smRe.one (u := ((op, []) : Nd)) (by simp))).mono (by omega)
def smallR : List Int := [97, 98, 97, 98, 99, 12354]
theorem p_small (code : List Int) (hc : allW (inK .u8) code) (a s m : Int) (h0 : 0 ≤ a) (h1 : a ≤ 100000000000) (hm0 : 0 ≤ m) (hm : m ≤ 60000) : ∃ (l : List Int) (a' s' : Int), z0s.f code a s m = some (l, a', s') ∧ (l.length : Int) ≤ m ∧ (∀ x ∈ l, x ∈ smallR) ∧ a ≤ a' ∧ a' ≤ a + 2 + 2 * m := by
 unfold z0s.f
 rw [yp (by omega) (by omega)]
 obtain ⟨r, a1, s1, e, r0, r1, _, _, b0, b1⟩ := p_pick code hc a s (m + 1) h0 (by omega)
 rw [e]
 simp only [Option.bind_some]
 obtain ⟨k, rfl⟩ := Int.eq_ofNat_of_zero_le r0
 have hk : (k : Int) < m + 1 := r1 (by omega)
 have key : ∀ (n f : Nat) (l : List Int) (a s : Int), n < f → 0 ≤ a → a + 2 * n ≤ 1000000000000 → (∀ x ∈ l, x ∈ smallR) → l.length + n ≤ 100000 → ∃ (l' : List Int) (a' s' : Int), z0s.l1 code f l (n : Int) a s = some (l', a', s') ∧ l'.length = l.length + n ∧ (∀ x ∈ l', x ∈ smallR) ∧ a ≤ a' ∧ a' ≤ a + 2 * n := by
  intro n
  induction n with
  | zero =>
   intro f l a s hf ha ha2 hl hn
   obtain ⟨f, rfl⟩ := Nat.exists_eq_succ_of_ne_zero (show f ≠ 0 by omega)
   rw [z0s.l1, if_neg (by simp)]
   exact ⟨l, a, s, rfl, by omega, hl, by omega, by omega⟩
  | succ n ih =>
   intro f l a s hf ha ha2 hl hn
   obtain ⟨f, rfl⟩ := Nat.exists_eq_succ_of_ne_zero (show f ≠ 0 by omega)
   rw [z0s.l1, if_pos (by simp <;> omega)]
   obtain ⟨x, a1, s1, e, hx, c0, c1⟩ := p_among code hc a s smallR (by decide) ha (by omega)
   unfold smallR at e
   rw [e]
   simp only [Option.bind_some]
   rw [app?_at (by simp; omega)]
   simp only [Option.bind_some]
   rw [yp (by omega) (by omega), show ((n + 1 : Nat) : Int) - 1 = (n : Int) by omega]
   obtain ⟨l', a', s', e', g1, g2, g3, g4⟩ := ih f (l ++ [x]) a1 s1 (by omega) (by omega) (by omega) (fun y hy => by
    rcases List.mem_append.1 hy with hy | hy
    ·exact hl y hy
    ·rw [List.mem_singleton.1 hy]; exact hx) (by simp; omega)
   exact ⟨l', a', s', e', by rw [g1]; simp; omega, g2, by omega, by omega⟩
 obtain ⟨l, a', s', e2, g1, g2, g3, g4⟩ := key k (((k : Int) - 0).toNat + 2) [] a1 s1 (by omega) (by omega) (by omega) (by simp) (by simp; omega)
 rw [e2]
 exact ⟨l, a', s', rfl, by simp at g1; omega, g2, by omega, by omega⟩
theorem t_small {code : List Int} (hc : allW (inK .u8) code) {a s m : Int} (h0 : 0 ≤ a) (h1 : a ≤ 100000000000) (hm0 : 0 ≤ m) (hm : m ≤ 60000) : Tt (z0s.f code a s m) fun r => (r.1.length : Int) ≤ m ∧ a ≤ r.2.1 ∧ r.2.1 ≤ a + 2 + 2 * m := by
 obtain ⟨l, a', s', e, x1, _, x3, x4⟩ := p_small code hc a s m h0 h1 hm0 hm
 exact ⟨_, e, x1, x3, x4⟩
theorem t_lit (l : List Int) (hl : l.length ≤ 1000) : Tt (z0t.f l) (smRe (2 * l.length + 1)) := by
 unfold z0t.f
 refine Tt.ite (fun _ => .one ((smRe.one (by simp)).mono (by omega))) (fun _ => ?_)
 have key : ∀ (k i : Nat) (out : List Nd), i ≤ l.length → l.length - i < k → smRe (2 * i) out → Tt (z0t.l1 l k out i) (smRe (2 * l.length)) := by
  intro k
  induction k with
  | zero => intro i out _ h; omega
  | succ k ih =>
   intro i out hi hk ho
   rw [z0t.l1]
   refine Tt.ite (fun h => ?_) (fun _ => .one (ho.mono (by omega)))
   have h : i < l.length := by have := of_decide_eq_true h; omega
   have h1 := ho.1
   refine Tt.bind (Φ := smRe (2 * (i + 1))) ?_ fun o ho => ?_
   ·refine (Tt.rd (by omega) (by omega)).bind fun x _ => (Tt.app (ys := [((2, [x, x]) : Nd)]) (by simp; omega)).bind fun y hy => ?_
    subst hy
    have q := ho.app (smRe.one (u := ((2, [x, x]) : Nd)) (by simp))
    refine Tt.ite (fun _ => ?_) (fun _ => .one (q.mono (by omega)))
    refine (Tt.app (ys := [((3, []) : Nd)]) (by simp; omega)).bind fun z hz => .one ?_
    subst hz
    exact (q.app (smRe.one (u := ((3, []) : Nd)) (by simp))).mono (by omega)
   ·rw [wrapN i (by omega)]
    exact ih (i + 1) o (by omega) (by omega) ho
 refine (key _ 0 [] (by omega) (by omega) ⟨by simp, by simp⟩).bind fun o ho => .one (ho.mono (by omega))
def smCl (l : List Cl) : Prop := ∀ c ∈ l, smRe 60 c.2
theorem t_clauses {code : List Int} (hc : allW (inK .u8) code) {a s : Int} (h0 : 0 ≤ a) (h1 : a ≤ 100000) : Tt (z0u.f code a s) fun r => r.1.length ≤ 100 ∧ smCl r.1 := by
 unfold z0u.f
 refine (t_pick hc h0 (by omega)).bind fun x hx => ?_
 have key : ∀ (n f : Nat) (l : List Cl) (a s : Int), n < f → 0 ≤ a → a + 500 * n ≤ 500000 → l.length + n ≤ 100 → smCl l → Tt (z0u.l1 code f l (n : Int) a s) fun r => r.1.length ≤ 100 ∧ smCl r.1 ∧ 0 ≤ r.2.1 ∧ r.2.1 ≤ 500000 := by
  intro n
  induction n with
  | zero =>
   intro f l a s hf ha ha2 hl hs
   obtain ⟨f, rfl⟩ := Nat.exists_eq_succ_of_ne_zero (show f ≠ 0 by omega)
   rw [z0u.l1, if_neg (by simp)]
   exact .one ⟨by dsimp only; omega, hs, by dsimp only; omega, by dsimp only; omega⟩
  | succ n ih =>
   intro f l a s hf ha ha2 hl hs
   obtain ⟨f, rfl⟩ := Nat.exists_eq_succ_of_ne_zero (show f ≠ 0 by omega)
   rw [z0u.l1, if_pos (by simp <;> omega)]
   have more : ∀ {c : Cl}, smRe 60 c.2 → smCl (l ++ [c]) := fun hc d hd => (List.mem_append.1 hd).elim (hs d) fun h => by rw [List.mem_singleton.1 h]; exact hc
   refine Tt.bind (Φ := fun o : List Cl × Int × Int => o.1.length = l.length + 1 ∧ smCl o.1 ∧ a ≤ o.2.1 ∧ o.2.1 ≤ a + 500) ?_ fun o ho => ?_
   ·refine (t_pick hc ha (by omega)).bind fun x hx => Tt.ite (fun _ => ?_) (fun _ => Tt.ite (fun _ => ?_) (fun _ => ?_))
    ·refine (Tt.app (ys := [((2, []) : Cl)]) (by simp; omega)).bind fun y hy => .one ⟨?_, ?_, by dsimp only; omega, by dsimp only; omega⟩
     ·subst hy; simp
     ·subst hy; exact more ⟨by simp, by simp⟩
    ·refine (Tt.app (ys := [((3, []) : Cl)]) (by simp; omega)).bind fun y hy => .one ⟨?_, ?_, by dsimp only; omega, by dsimp only; omega⟩
     ·subst hy; simp
     ·subst hy; exact more ⟨by simp, by simp⟩
    ·unfold z0r.f
     refine (t_re hc true 2 (by decide) _ x.2.1 x.2.2 (by decide) (by omega) (by simp only [szR]; omega)).bind fun u hu => ?_
     simp only [szR] at hu
     refine Tt.bind (Φ := fun o : List Nd × Int × Int => smRe 60 o.1 ∧ a ≤ o.2.1 ∧ o.2.1 ≤ a + 450) ?_ fun o ho => ?_
     ·refine (t_one hc (by omega) (by omega)).bind fun w hw => Tt.ite (fun _ => ?_) (fun _ => .one ⟨hu.1.mono (by decide), by dsimp only; omega, by dsimp only; omega⟩)
      refine (t_small hc (by omega) (by omega) (by decide) (by decide)).bind fun z hz => (Tt.app (ys := [(98 : Int)]) (by simp; omega)).bind fun y hy => ?_
      have hyl : y.length ≤ 3 := by subst hy; simp; omega
      exact (t_lit y (by omega)).bind fun q hq => .one ⟨hq.mono (by omega), by dsimp only; omega, by dsimp only; omega⟩
     ·obtain ⟨q, a2, s2⟩ := o
      dsimp only at *
      refine (Tt.app (ys := [((1, q) : Cl)]) (by simp; omega)).bind fun y hy => .one ⟨?_, ?_, by dsimp only; omega, by dsimp only; omega⟩
      ·subst hy; simp
      ·subst hy; exact more ho.1
   ·obtain ⟨l', a', s'⟩ := o
    dsimp only at *
    rw [yp (by omega) (by omega), show ((n + 1 : Nat) : Int) - 1 = (n : Int) by omega]
    exact ih f l' a' s' (by omega) (by omega) (by omega) (by omega) ho.2.1
 obtain ⟨n, b1, s1⟩ := x
 dsimp only at *
 obtain ⟨n, rfl⟩ := Int.eq_ofNat_of_zero_le hx.1
 have hn := hx.2.1 (by decide)
 refine (key n _ [] b1 s1 (by omega) (by omega) (by omega) (by simp; omega) (fun _ h => by simp at h)).bind fun o ho => ?_
 obtain ⟨l, a2, s2⟩ := o
 dsimp only at *
 refine Tt.bind (Φ := fun o : List Cl × Int × Int => o.1.length ≤ 100 ∧ smCl o.1) ?_ fun o ho => .one ho
 refine Tt.bind (Φ := fun r : Bool × Int × Int => (r.1 = true → 0 < l.length) ∧ 0 ≤ r.2.1 ∧ r.2.1 ≤ 600000) (Tt.ite (fun h => ?_) (fun _ => .one ⟨(by intro h; cases h), by dsimp only; omega, by dsimp only; omega⟩)) fun o ho' => ?_
 ·exact (t_one hc (by omega) (by omega)).bind fun y hy => .one ⟨fun _ => by have := of_decide_eq_true h; omega, by dsimp only; omega, by dsimp only; omega⟩
 ·obtain ⟨b, a', s'⟩ := o
  dsimp only at *
  refine Tt.ite (fun hb => ?_) (fun _ => .one ⟨ho.1, ho.2.1⟩)
  have hl := ho'.1 hb
  refine (t_pick hc (by omega) (by omega)).bind fun y hy => (Tt.rd (by decide) (by omega)).bind fun c hcm => (Tt.st (by decide) (by omega)).bind fun w hw => .one ⟨by dsimp only; omega, fun d hd => ?_⟩
  rcases hw.2 d hd with rfl | h
  ·exact ho.2.1 c hcm
  ·exact ho.2.1 d h
theorem seg_all (w : List Int) : seg w 0 w.length = w := by unfold seg; rw [List.drop_zero, List.take_length]
theorem p_Matches (p : List Nd) (w : List Int) (hp : okRe p = true) (hw : w.length ≤ big) : ∃ r : Bool × Bool, z31.f p w = some r ∧ (r.2 = true → r.1 = acc (trOf p) w) ∧ r.2 = (decide ((w.length : Int) ≤ 40) && w.all okRune) := by
 obtain ⟨h1, h2, h3, K, q, h4⟩ := okRe_facts hp
 unfold z31.f
 rw [p_implRe p (by unfold big; omega) (fun u hu => by have := h3 u hu; unfold big; omega), hp, p_areRunes w 40 hw]
 simp only [Option.bind_some, Bool.not_true, Bool.false_eq_true, if_false]
 cases hb : (decide ((w.length : Int) ≤ 40) && w.all okRune) with
 | false => exact ⟨_, rfl, fun h => (by cases h), rfl⟩
 | true =>
  have hl : w.length ≤ 40 := by
   rw [Bool.and_eq_true, decide_eq_true_eq] at hb
   omega
  obtain ⟨hK, tb, e, e2, e3⟩ := p_match (q := q) (l := w) (by omega) (fun u hu => by have := h3 u hu; omega) (by omega) h4
  obtain ⟨rows, r1, r2⟩ := e3 (p.length - 1) (by omega)
  have hh := RowsA.has (p := p) (K := K) r1 r2 (f := 0) (t := w.length) (by omega) (Nat.le_refl _)
  simp only [Bool.not_true, Bool.false_eq_true, if_false]
  rw [e]
  simp only [Option.bind_some]
  rw [yp (by omega) (by omega), show ((p.length : Int) - 1) = ((p.length - 1 : Nat) : Int) by omega]
  rw [show ((0 : Nat) : Int) = 0 from rfl] at hh
  rw [hh]
  refine ⟨_, rfl, fun _ => ?_, rfl⟩
  unfold trOf
  rw [h4, seg_all]
theorem p_sameInts (p q : List Int) (hp : p.length ≤ big) : z2x.f p q = some (decide (p = q)) :=
 eq_all p q hp (z2x.l1 p q) _ (by omega) fun _ _ _ => rfl
theorem p_sameBuf (m : Int) (rs ls : List Int) (g : Int) (hr : rs.length ≤ big) (hl : ls.length ≤ big) : z2y.f m rs ls g m rs ls g = some true := by
 unfold z2y.f
 rw [p_sameInts rs rs hr, p_sameInts ls ls hl]
 simp
theorem p_sameSess (a b c : Int) (d : ByteArray) (m : Int) (rs ls : List Int) (g : Int) (e : Bool) (hr : rs.length ≤ big) (hl : ls.length ≤ big) : z2z.f a b c d m rs ls g e a b c d m rs ls g e = some true := by
 unfold z2z.f
 rw [p_sameBuf m rs ls g hr hl]
 have hd : (d == d) = true := by
  obtain ⟨x⟩ := d
  exact beq_self_eq_true x
 simp [hd]
theorem p_big (p q : List Int) (hp : p.length ≤ maxN) : z0.f p q = some (decide ((p.length : Int) + q.length > 1048576)) := by
 unfold z0.f
 unfold maxN at hp
 by_cases h : (p.length : Int) > 1048576
 ·rw [if_pos (by simpa using h)]
  simp; omega
 ·rw [if_neg (by simpa using h), yp (by omega) (by omega)]
  congr 1
  rw [Bool.eq_iff_iff]
  simp; omega
theorem p_ExpectIn (en sh lo : Int) (hd : ByteArray) (mx : Int) (rs ls : List Int) (go : Int) (eof : Bool) (l : List Cl) (hr : rs.length ≤ big) (hl : ls.length ≤ big) (hcl : l.length ≤ 1000000000) (hb : ∀ c ∈ l, bgC c) : ∃ r : Int × Int × Int × List Int × Int × Bool, z2v.f en sh lo hd mx rs ls go eof l = some r ∧ z2w.f en sh lo hd mx rs ls go eof l = some r ∧
  (∀ a, okSess en sh lo (yd hd) mx rs ls go eof = true → okCls l = true → z2c.f en sh lo hd mx rs ls go eof l = some a → r = (a.1, a.2.1, a.2.2.1, a.2.2.2.1, a.2.2.2.2, true)) ∧ r.2.2.2.1.length ≤ 5000 := by
 unfold z2v.f z2w.f
 rw [p_implSess en sh lo hd mx rs ls go eof hr hl, p_specSess en sh lo hd mx rs ls go eof hr hl, p_implCls l hcl hb, p_specCls l hcl hb]
 simp only [Option.bind_some]
 cases hs : okSess en sh lo (yd hd) mx rs ls go eof with
 | false => exact ⟨_, rfl, rfl, fun a h => (by cases h), by simp⟩
 | true =>
  cases hc : okCls l with
  | false => exact ⟨_, rfl, rfl, fun a _ h => (by cases h), by simp⟩
  | true =>
   simp only [Bool.not_true, Bool.false_eq_true, if_false, Option.bind_some]
   simp only [okSess, Bool.and_eq_true] at hs
   obtain ⟨⟨hd1, hb1⟩, he1⟩ := hs
   simp only [okBuf, Bool.and_eq_true, decide_eq_true_eq, beq_iff_eq] at hb1
   obtain ⟨a, e1, e2, hS⟩ := p_expect en sh lo hd mx rs ls go eof l (by omega) (by omega) hc
   rw [e1, e2]
   simp only [Option.bind_some]
   refine ⟨_, rfl, rfl, fun a' _ _ h => ?_, ?_⟩
   ·cases h
    rfl
   ·rcases hS with rfl | ⟨m, f, t, hm, k1, k2, k3, rfl, _⟩ | ⟨m, hm, k1, _, rfl⟩ | ⟨m, hm, k1, _, rfl⟩
    ·simp
    ·dsimp only
     rw [seg_len rs f t k3]
     omega
    ·simp
    ·simp
theorem p_sameAns (a b c : Int) (t : List Int) (d : Int) (h : t.length ≤ big) : z30.f a b c t d a b c t d = some true := by
 unfold z30.f
 rw [p_sameInts t t h]
 simp
theorem law_Expected (p q : List Int) (hp : allW (inK .u8) p) (hq : allW (inK .u8) q) : z32.f p q = some true := by
 suffices h : Tt (z32.f p q) fun r => r = true by
  obtain ⟨r, e, rfl⟩ := h
  exact e
 unfold z32.f
 rw [p_big p q hp.1]
 refine (Tt.one (Φ := fun b => b = decide ((p.length : Int) + q.length > 1048576)) rfl).bind fun b hb => ?_
 refine Tt.ite (fun _ => .one rfl) (fun hn => ?_)
 unfold z0w.f z0v.f
 refine Tt.bind (Φ := fun r : Int × Int × Int × ByteArray × Int × (List (Int)) × (List (Int)) × Int × Bool × List Cl => r.2.2.2.2.2.1.length ≤ 5000 ∧ r.2.2.2.2.2.2.1.length ≤ 5000 ∧ r.2.2.2.2.2.2.2.2.2.length ≤ 100 ∧ smCl r.2.2.2.2.2.2.2.2.2) (Tt.bind (Φ := fun r : Int × Int × Int × ByteArray × Int × (List (Int)) × (List (Int)) × Int × Bool × List Cl => r.2.2.2.2.2.1.length ≤ 5000 ∧ r.2.2.2.2.2.2.1.length ≤ 5000 ∧ r.2.2.2.2.2.2.2.2.2.length ≤ 100 ∧ smCl r.2.2.2.2.2.2.2.2.2) ((t_session hp (by decide) (by decide)).bind fun u hu => (t_clauses hp (by omega) (by omega)).bind fun v hv => .one ⟨hu.1, hu.2.1, hv.1, hv.2⟩) fun u hu => .one hu) fun u hu => ?_
 obtain ⟨en, sh, lo, hd, m, rs, ls, g, eof, l⟩ := u
 dsimp only at *
 obtain ⟨hr, hl, hx, hsm⟩ := hu
 have b1 : rs.length ≤ big := by unfold big; omega
 have b2 : ls.length ≤ big := by unfold big; omega
 have b3 : ∀ c ∈ l, bgC c := fun c hc => ⟨by have := (hsm c hc).1; omega, fun u hu => by have := (hsm c hc).2 u hu; omega⟩
 obtain ⟨r, e1, e2, e3⟩ := p_TakeIn en sh lo hd m rs ls g eof l b1 b2 (by omega) b3
 obtain ⟨x, f1, f2, f3, f4⟩ := p_ExpectIn en sh lo hd m rs ls g eof l b1 b2 (by omega) b3
 rw [e1, e2, f1, f2]
 simp only [Option.bind_some]
 rcases e3 with rfl | ⟨hs, hc, a, hS, rfl, hE⟩
 ·dsimp only
  rw [p_sameSess _ _ _ _ _ _ _ _ _ (by decide) (by decide), p_sameAns _ _ _ _ _ (by decide), p_sameAns _ _ _ _ _ (by unfold big; omega)]
  simp only [Option.bind_some, bne_self_eq_false, Bool.false_eq_true, if_false, Bool.not_true]
  exact .one rfl
 ·have hx := f3 a hs hc hE
  subst hx
  dsimp only at f4 ⊢
  have hs2 := hs
  simp only [okSess, Bool.and_eq_true] at hs2
  have hb1 := hs2.1.2
  simp only [okBuf, Bool.and_eq_true, decide_eq_true_eq, beq_iff_eq] at hb1
  have hls : ls.length = rs.length := by omega
  have L1 : (rs.drop (takeN rs l a)).length ≤ big := by simp; omega
  have L2 : (ls.drop (takeN rs l a)).length ≤ big := by simp; omega
  rw [p_sameSess _ _ _ _ _ _ _ _ _ L1 L2, p_sameAns _ _ _ _ _ (by unfold big; omega)]
  simp only [Option.bind_some, bne_self_eq_false, Bool.false_eq_true, if_false, Bool.not_true, if_true]
  refine Tt.bind (Φ := fun o => o = Lo.go ()) ?_ fun o ho => by subst ho; exact .one rfl
  have hpat : ∀ c ∈ l, c.1 = 1 → okRe c.2 = true := by
   intro c hcm h1
   unfold okCls at hc
   rw [Bool.and_eq_true] at hc
   have := List.all_eq_true.1 hc.1 c hcm
   unfold okCl at this
   rw [if_pos h1] at this
   exact this
  rcases hS with rfl | ⟨n, f, t, hm, k1, k2, k3, rfl, k4⟩ | ⟨n, hm, k1, k2, rfl⟩ | ⟨n, hm, k1, k2, rfl⟩
  ·have hN : takeN rs l (-1, 0, 0, [], 0) = 0 := by unfold takeN; rfl
   rw [hN]
   dsimp only
   rw [if_pos (by simp)]
   simp only [List.drop_zero, List.take_zero]
   have : addAll g [] = g := rfl
   rw [this, p_sameSess _ _ _ _ _ _ _ _ _ b1 b2]
   exact .one rfl
  ·have hN : takeN rs l ((n : Int), (f : Int), (t : Int), seg rs f t, addAll g (ls.take t)) = t := by
    unfold takeN
    dsimp only
    rw [if_neg (by omega), Int.toNat_natCast, List.getElem?_eq_getElem hm, Option.map_some, k1, if_pos rfl, Int.toNat_natCast]
   rw [hN]
   dsimp only
   rw [if_neg (by simp), if_neg (by simp; omega), rd?_at hm]
   simp only [Option.bind_some]
   rw [if_pos (by rw [k1]; rfl), if_neg (by simp; omega), if_neg (by simp; omega), cut?_at k2 k3, cutE (show t ≤ rs.length by omega)]
   simp only [Option.bind_some]
   have hsl := seg_len rs f t k3
   rw [show (rs.take t).drop f = seg rs f t from rfl, p_sameInts _ _ (by unfold big; omega), p_sameInts _ _ (by unfold big; simp; omega)]
   simp only [Option.bind_some, decide_true, Bool.not_true, Bool.false_eq_true, if_false, bne_self_eq_false]
   obtain ⟨w, w1, w2, _⟩ := p_Matches l[n].2 (seg rs f t) (hpat _ (List.getElem_mem hm) k1) (by unfold big; omega)
   rw [w1]
   simp only [Option.bind_some]
   cases hw : w.2 with
   | false => exact .one rfl
   | true =>
    rw [w2 hw, k4]
    exact .one rfl
  ·have hN : takeN rs l ((n : Int), 0, 0, [], 0) = rs.length := by
    unfold takeN
    dsimp only
    rw [if_neg (by omega), Int.toNat_natCast, List.getElem?_eq_getElem hm, Option.map_some, k1, if_neg (by decide)]
   rw [hN]
   dsimp only
   rw [if_neg (by simp), if_neg (by simp; omega), rd?_at hm]
   simp only [Option.bind_some]
   rw [if_neg (by rw [k1]; decide), if_pos (by rw [k1]; rfl), k2]
   simp
   exact .one rfl
  ·have hN : takeN rs l ((n : Int), 0, 0, [], 0) = rs.length := by
    unfold takeN
    dsimp only
    rw [if_neg (by omega), Int.toNat_natCast, List.getElem?_eq_getElem hm, Option.map_some, k1, if_neg (by decide)]
   rw [hN]
   dsimp only
   rw [if_neg (by simp), if_neg (by simp; omega), rd?_at hm]
   simp only [Option.bind_some]
   rw [if_neg (by rw [k1]; decide), if_neg (by rw [k1]; decide), k2]
   simp
   exact .one rfl
end Go.Proofs.YtbeolahmnoeicaaGreatDoor
