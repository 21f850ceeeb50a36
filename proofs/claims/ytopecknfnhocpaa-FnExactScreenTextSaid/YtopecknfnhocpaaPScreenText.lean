/- Plain laws of the printed functions. Conditions as each lemma says. -/
import Derived.Test.YtopecknfnhocpaaPB
import Derived.Test.YtopecknfnhocpaaWScreenText1
set_option linter.unusedVariables false
set_option linter.unusedSimpArgs false
namespace Go.Proofs.Ytopecknfnhocpaa
open Go Go.Proofs.GL
theorem p_l1In (a b c : Int) : spec_l1In.f a b c = some (decide (b ≤ a) && decide (a ≤ c)) := by
  unfold spec_l1In.f
  by_cases h : b ≤ a
  · rw [if_pos (by simpa using h)]; simp [h]
  · rw [if_neg (by simpa using h)]; simp [h]
theorem p_inRange (a b c : Int) : impl_inRange.f a b c = some (decide (b ≤ a) && decide (a ≤ c)) := by
  unfold impl_inRange.f
  by_cases h : b ≤ a
  · rw [if_pos (by simpa using h)]; simp [h]
  · rw [if_neg (by simpa using h)]; simp [h]
def okRune (r : Int) : Bool := decide (0 ≤ r) && decide (r ≤ 1114111) && !(decide (55296 ≤ r) && decide (r ≤ 57343))
theorem p_specRune (r : Int) : spec_GoodRune.f r = some (okRune r) := by
  unfold spec_GoodRune.f okRune
  simp only [p_l1In, Option.bind_some]
  cases (decide (0 ≤ r) && decide (r ≤ 1114111)) <;> rfl
theorem p_implRune (r : Int) : impl_GoodRune.f r = some (okRune r) := by
  unfold impl_GoodRune.f okRune
  simp only [p_inRange, Option.bind_some]
  cases (decide (0 ≤ r) && decide (r ≤ 1114111)) <;> rfl
theorem p_allRunes (p : List Int) (hp : p.length ≤ big) : spec_l1AllRunes.f p = some (p.all okRune && decide (p.length ≤ 1000)) := by
  unfold spec_l1AllRunes.f
  have := all_loop p hp (fun u => !okRune u) false (spec_l1AllRunes.l1 p) (fun k i => by rw [spec_l1AllRunes.l1]; simp only [p_specRune, Option.bind_some]) (((p.length : Int) - 0).toNat + 2) 0 (by omega) (by omega)
  rw [show ((0 : Nat) : Int) = 0 from rfl] at this
  rw [this, List.drop_zero]
  have e : p.any (fun u => !okRune u) = !p.all okRune := by rw [List.all_eq_not_any_not]; simp
  rw [e]
  cases h : p.all okRune <;> simp
  omega
theorem mul_le160 {w h : Int} (h1 : 1 ≤ w) (h2 : w ≤ 20) (h3 : 1 ≤ h) (h4 : h ≤ 8) : 1 ≤ w * h ∧ w * h ≤ 160 := by
  have a := Int.mul_le_mul h2 h4 (by omega) (by omega)
  have b := Int.mul_le_mul h1 h3 (by omega) (by omega)
  omega
theorem p_l1All (p : List Int) (a b : Int) (hp : p.length ≤ big) : spec_l1All.f p a b = some (p.all fun u => decide (a ≤ u) && decide (u ≤ b)) := by
  unfold spec_l1All.f
  have := all_loop p hp (fun u => !(decide (a ≤ u) && decide (u ≤ b))) false (spec_l1All.l1 p a b) (fun k i => by rw [spec_l1All.l1]; simp only [p_l1In, Option.bind_some]) (((p.length : Int) - 0).toNat + 2) 0 (by omega) (by omega)
  rw [show ((0 : Nat) : Int) = 0 from rfl] at this
  rw [this, List.drop_zero]
  have e : p.any (fun u => !(decide (a ≤ u) && decide (u ≤ b))) = !p.all fun u => decide (a ≤ u) && decide (u ≤ b) := by rw [List.all_eq_not_any_not]; simp
  rw [e]
  cases h : p.all fun u => decide (a ≤ u) && decide (u ≤ b) <;> simp
def okCell (r : Int) : Bool := okRune r && decide (32 ≤ r)
theorem p_goodCells (p : List Int) (hp : p.length ≤ big) : slices_ContainsFunc_int_int_impl_GoodScreen_1.f p = some (!p.all okCell) := by
  unfold slices_ContainsFunc_int_int_impl_GoodScreen_1.f slices_IndexFunc_int_int_impl_GoodScreen_1.f
  have e1 : ∀ u, impl_GoodScreen_1.f u = some (!okCell u) := fun u => by
    unfold impl_GoodScreen_1.f okCell
    simp only [p_implRune, Option.bind_some]
    by_cases h : u < 32
    · rw [if_pos (by simpa using h)]; simp; exact .inr h
    · rw [if_neg (by simpa using h)]
      have : decide (32 ≤ u) = true := by simp; omega
      simp [this]
  have := scan_loop p hp (fun u => !okCell u) (fun i _ => i) (slices_IndexFunc_int_int_impl_GoodScreen_1.l1 p) (fun k i => by rw [slices_IndexFunc_int_int_impl_GoodScreen_1.l1]; simp only [e1, Option.bind_some]) (((p.length : Int) - 0).toNat + 2) 0 (by omega) (by omega)
  rw [show ((0 : Nat) : Int) = 0 from rfl] at this
  rw [this, List.drop_zero]
  have e : p.all okCell = !(p.any fun u => !okCell u) := List.all_eq_not_any_not
  rw [e, Bool.not_not]
  cases hf : p.findIdx? (fun u => !okCell u) with
  | none =>
    have : p.any (fun u => !okCell u) = false := by
      rw [List.findIdx?_eq_none_iff] at hf
      simpa using hf
    rw [this]; simp
  | some j =>
    obtain ⟨hj, h1, h2⟩ := List.findIdx?_eq_some_iff_getElem.1 hf
    have : p.any (fun u => !okCell u) = true := List.any_eq_true.2 ⟨_, List.getElem_mem hj, h1⟩
    rw [this]
    simp [hj]
/-- A good screen. -/
def okScreen (w h : Int) (cs : List Int) (x y : Int) : Bool := decide (1 ≤ w) && decide (w ≤ 20) && (decide (1 ≤ h) && decide (h ≤ 8)) && (decide (0 ≤ x) && decide (x ≤ w)) && (decide (0 ≤ y) && decide (y < h)) && decide ((cs.length : Int) = w * h) && cs.all okCell
theorem p_specScreen (w h : Int) (cs : List Int) (x y : Int) (hp : cs.length ≤ big) : spec_GoodScreen.f w h cs x y = some (okScreen w h cs x y) := by
  unfold spec_GoodScreen.f okScreen
  simp only [p_l1In, Option.bind_some, p_allRunes cs hp, p_l1All cs _ _ hp]
  by_cases h1 : 1 ≤ w ∧ w ≤ 20
  · by_cases h2 : 1 ≤ h ∧ h ≤ 8
    · obtain ⟨m1, m2⟩ := mul_le160 h1.1 h1.2 h2.1 h2.2
      rw [wrapS (n := h - 1) (by omega) (by omega), wrapS (n := w * h) (by omega) (by omega)]
      by_cases h3 : 0 ≤ x ∧ x ≤ w
      · by_cases h4 : 0 ≤ y ∧ y < h
        · by_cases h5 : (cs.length : Int) = w * h
          · have h6 : cs.length ≤ 1000 := by omega
            have h7 : y ≤ h - 1 := by omega
            have e : (cs.all okRune && cs.all fun u => decide (32 ≤ u) && decide (u ≤ 1114111)) = cs.all okCell := by
              rw [Bool.eq_iff_iff]
              simp only [Bool.and_eq_true, List.all_eq_true, okCell, okRune, decide_eq_true_eq, Bool.not_eq_true', Bool.and_eq_false_iff, decide_eq_false_iff_not]
              constructor
              · rintro ⟨a, b⟩ u hu
                exact ⟨a u hu, (b u hu).1⟩
              · intro a
                exact ⟨fun u hu => (a u hu).1, fun u hu => ⟨(a u hu).2, (a u hu).1.1.2⟩⟩
            rw [← e]
            generalize cs.all okRune = a1
            generalize (cs.all fun u => decide (32 ≤ u) && decide (u ≤ 1114111)) = a2
            simp [h1, h2, h3, h4, h5, h6, h7]
            cases a1 <;> simp
          · have h7 : ¬ (h - 1 < y) := by omega
            simp [h1, h2, h3, h4, h5, h7]
        · have h7 : ¬ (0 ≤ y ∧ y ≤ h - 1) := by omega
          have e1 : (decide (0 ≤ y) && decide (y ≤ h - 1)) = false := by simpa using h7
          have e2 : (decide (0 ≤ y) && decide (y < h)) = false := by simpa using h4
          simp [h1, h2, h3, e1, e2]
      · have e1 : (decide (0 ≤ x) && decide (x ≤ w)) = false := by simpa using h3
        simp [h1, h2, e1]
    · have e1 : (decide (1 ≤ h) && decide (h ≤ 8)) = false := by simpa using h2
      simp [h1, e1]
  · have e1 : (decide (1 ≤ w) && decide (w ≤ 20)) = false := by simpa using h1
    simp [e1]
theorem p_implScreen (w h : Int) (cs : List Int) (x y : Int) (hp : cs.length ≤ big) : impl_GoodScreen.f w h cs x y = some (okScreen w h cs x y) := by
  unfold impl_GoodScreen.f okScreen impl_isPlace.f
  simp only [p_inRange, Option.bind_some, p_goodCells cs hp]
  by_cases h1 : 1 ≤ w ∧ w ≤ 20
  · by_cases h2 : 1 ≤ h ∧ h ≤ 8
    · obtain ⟨m1, m2⟩ := mul_le160 h1.1 h1.2 h2.1 h2.2
      rw [wrapS (n := h - 1) (by omega) (by omega), wrapS (n := w * h) (by omega) (by omega)]
      by_cases h3 : 0 ≤ x ∧ x ≤ w
      · by_cases h4 : 0 ≤ y ∧ y < h
        · have h7 : y ≤ h - 1 := by omega
          by_cases h5 : (cs.length : Int) = w * h
          · simp [h1, h2, h3, h4, h5, h7]
          · simp [h1, h2, h3, h4, h5]
        · have h7 : ¬ (0 ≤ y ∧ y ≤ h - 1) := by omega
          have e1 : (decide (0 ≤ y) && decide (y ≤ h - 1)) = false := by simpa using h7
          have e2 : (decide (0 ≤ y) && decide (y < h)) = false := by simpa using h4
          simp [h1, h2, h3, e1, e2]
      · have e1 : (decide (0 ≤ x) && decide (x ≤ w)) = false := by simpa using h3
        simp [h1, h2, e1]
    · have e1 : (decide (1 ≤ h) && decide (h ≤ 8)) = false := by simpa using h2
      simp [h1, e1]
  · have e1 : (decide (1 ≤ w) && decide (w ≤ 20)) = false := by simpa using h1
    simp [e1]
theorem p_eqIntS (p q : List Int) (hp : p.length ≤ big) : laws_eqIntS.f p q = some (decide (p = q)) :=
  eq_all p q hp (laws_eqIntS.l1 p q) _ (by omega) fun _ _ _ => rfl
theorem p_toIntS_l (p : List Int) (hp : p.length ≤ big) : ∀ (k i : Nat) (x : List Int), i ≤ p.length → p.length - i < k → x.length = p.length → x.take i = p.take i → laws_toIntS.l1 p k x i = some p := by
  intro k
  induction k with
  | zero => intro i x _ h; omega
  | succ k ih =>
    intro i x hi hk hl ht
    rw [laws_toIntS.l1]
    by_cases h : i < p.length
    · rw [if_pos (by simpa using h), rd?_at h]
      simp only [Option.bind_some]
      rw [rd?_at (by omega : i < x.length)]
      simp only [Option.bind_some]
      rw [st?_at p[i] (by omega : i < x.length)]
      simp only [Option.bind_some]
      rw [wrapN i (by unfold big at hp; omega)]
      refine ih (i + 1) _ h (by omega) (by simpa using hl) ?_
      rw [List.take_add_one, List.take_add_one, List.take_set_of_le (Nat.le_refl i), ht]
      simp [h, hl]
    · rw [if_neg (by simpa using h)]
      obtain rfl : i = p.length := by omega
      rw [List.take_length, ← hl, List.take_length] at ht
      rw [ht]
theorem p_toIntS (p : List Int) (hp : p.length ≤ big) : laws_toIntS.f p = some p := by
  unfold laws_toIntS.f
  rw [mk?_at (by unfold big at hp; omega)]
  simp only [Option.bind_some]
  have := p_toIntS_l p hp (((p.length : Int) - 0).toNat + 2) 0 (List.replicate p.length 0) (by omega) (by omega) (by simp) (by simp)
  rw [show ((0 : Nat) : Int) = 0 from rfl] at this
  rw [this]
  rfl
theorem p_szIntS (p : List Int) (n : Int) (h0 : 0 ≤ n) (h1 : n ≤ 1048576) (hp : p.length ≤ maxN) : laws_szIntS.f p n = some (if (p.length : Int) ≤ n then n - p.length else -1) := by
  unfold laws_szIntS.f
  unfold maxN at hp
  rw [wrapS (by omega) (by omega)]
  by_cases h : (p.length : Int) ≤ n
  · rw [if_neg (by simp; omega), if_pos h]
  · rw [if_pos (by simp; omega), if_neg h]
theorem p_eqScreen (w h : Int) (cs : List Int) (x y : Int) (hp : cs.length ≤ big) : laws_eqScreen.f w h cs x y w h cs x y = some true := by
  unfold laws_eqScreen.f
  rw [p_eqIntS cs cs hp]
  simp
theorem p_szScreen (w h : Int) (cs : List Int) (x y : Int) (n : Int) (h0 : 0 ≤ n) (h1 : n ≤ 1048576) (hp : cs.length ≤ maxN) : ∃ u, laws_szScreen.f w h cs x y n = some u ∧ (u < 0 ∨ (cs.length : Int) ≤ n) := by
  unfold laws_szScreen.f
  rw [p_szIntS cs n h0 h1 hp]
  simp only [Option.bind_some]
  by_cases h : (cs.length : Int) ≤ n
  · rw [if_pos h, if_neg (by simp; omega)]; exact ⟨_, rfl, .inr h⟩
  · rw [if_neg h, if_pos (by decide)]; exact ⟨_, rfl, .inl (by decide)⟩
theorem p_toScreen (w h : Int) (cs : List Int) (x y : Int) (hp : cs.length ≤ big) : laws_toScreen.f w h cs x y = some (w, h, cs, x, y) := by
  unfold laws_toScreen.f
  rw [p_toIntS cs hp]
  rfl
theorem mul_row {w h : Int} {y : Nat} (h1 : 1 ≤ w) (h2 : w ≤ 20) (h4 : h ≤ 8) (hy : (y : Int) < h) : ∃ a b : Nat, (a : Int) = y * w ∧ (b : Int) = (y + 1) * w ∧ (b : Int) ≤ w * h ∧ b = a + w.toNat ∧ (a : Int) ≤ 160 ∧ (b : Int) ≤ 160 := by
  obtain ⟨n, rfl⟩ := Int.eq_ofNat_of_zero_le (show 0 ≤ w by omega)
  obtain ⟨m, rfl⟩ := Int.eq_ofNat_of_zero_le (show 0 ≤ h by omega)
  have hym : y + 1 ≤ m := by omega
  have e1 : (y + 1) * n ≤ m * n := Nat.mul_le_mul_right _ hym
  have e2 : m * n ≤ 8 * 20 := Nat.mul_le_mul (by omega) (by omega)
  refine ⟨y * n, (y + 1) * n, by simp, by simp, ?_, by rw [Nat.succ_mul]; simp, ?_, by omega⟩
  · rw [Int.mul_comm]; exact_mod_cast e1
  · have : y * n ≤ (y + 1) * n := Nat.mul_le_mul_right _ (by omega)
    omega
theorem p_row (w h : Int) (cs : List Int) (x y0 : Int) (y : Nat) (h1 : 1 ≤ w) (h2 : w ≤ 20) (h4 : h ≤ 8) (hy : (y : Int) < h) (hc : (cs.length : Int) = w * h) : ∃ row : List Int, (row.length : Int) = w ∧ cut? cs (IntKind.i64.wrap ((y : Int) * w)) (IntKind.i64.wrap ((IntKind.i64.wrap ((y : Int) + 1)) * w)) = some row := by
  obtain ⟨a, b, e1, e2, e3, e4, e5, e6⟩ := mul_row h1 h2 h4 hy
  rw [wrapS (n := (y : Int) + 1) (by omega) (by omega), ← e1, ← e2, wrapS (by omega) (by omega), wrapS (by omega) (by omega), cut?_at (by omega) (by omega)]
  exact ⟨_, by simp; omega, rfl⟩
/-- A row without the blanks at its end. -/
def trim : Nat → List Int → List Int
  | 0, xs => xs
  | n + 1, xs => if xs.getLast? = some 32 then trim n xs.dropLast else xs
theorem p_trim_l (L : Nat → List Int → Option (List Int)) (hL : ∀ kf (x : List Int), L (kf + 1) x = (if (decide ((x.length : Int) > 0)) = true then ((rd? x (IntKind.i64.wrap ((x.length : Int) - 1))).bind fun u123 => some (u123 == 32)) else (some false)).bind fun (o : Bool) => match o with | x121 => (if x121 = true then ((cut? x 0 (IntKind.i64.wrap ((x.length : Int) - 1))).bind fun x126 => L kf x126) else (some x))) :
    ∀ (k : Nat) (x : List Int), x.length < k → x.length ≤ big → L k x = some (trim x.length x) := by
  intro k
  induction k with
  | zero => intro x h; omega
  | succ k ih =>
    intro x hk hx
    rw [hL]
    cases hn : x.length with
    | zero =>
      obtain rfl : x = [] := List.eq_nil_of_length_eq_zero hn
      rfl
    | succ n =>
      unfold big at hx
      rw [if_pos (by simp), wrapS (by omega) (by omega), show (((n + 1 : Nat) : Int) - 1) = ((n : Nat) : Int) by omega, rd?_at (by omega : n < x.length)]
      simp only [Option.bind_some]
      have hg : x.getLast? = some (x[n]'(by omega)) := by
        rw [List.getLast?_eq_getElem?, show x.length - 1 = n by omega, List.getElem?_eq_getElem (by omega)]
      unfold trim
      by_cases h32 : x[n]'(by omega) = 32
      · rw [if_pos (by simpa using h32), if_pos (by rw [hg, h32])]
        have := cut?_at (xs := x) (a := 0) (b := n) (by omega) (by omega)
        rw [show ((0 : Nat) : Int) = 0 from rfl] at this
        rw [this]
        simp only [Option.bind_some, List.drop_zero]
        have hd : x.take n = x.dropLast := by rw [List.dropLast_eq_take, hn]; rfl
        have hlen : x.dropLast.length = n := by simp [hn]
        rw [hd, ih _ (by omega) (by unfold big; omega), hlen]
      · rw [if_neg (by simpa using h32), if_neg (by rw [hg]; simpa using h32)]
theorem trim_len : ∀ (n : Nat) (x : List Int), (trim n x).length ≤ x.length
  | 0, x => Nat.le_refl _
  | n + 1, x => by
    unfold trim
    split
    · have := trim_len n x.dropLast
      simp at this
      omega
    · exact Nat.le_refl _
/-- The bytes of a rune. -/
def u8s (r : Int) : List Int := if r < 128 then [r] else if r < 2048 then [192 + r / 64, 128 + r % 64] else if r < 65536 then [224 + r / 4096, 128 + r / 64 % 64, 128 + r % 64] else [240 + r / 262144, 128 + r / 4096 % 64, 128 + r / 64 % 64, 128 + r % 64]
theorem u8s_len (r : Int) : (u8s r).length ≤ 4 := by
  unfold u8s
  split
  · simp
  · split
    · simp
    · split <;> simp
theorem bytes_text : ∀ (xs : List Int), (∀ u ∈ xs, 0 ≤ u ∧ u < 256) → bytesB (textB xs) = xs := by
  have key : ∀ (xs : List Int) (s : ByteArray), (∀ u ∈ xs, 0 ≤ u ∧ u < 256) → bytesB (xs.foldl (fun s n => s.push (UInt8.ofNat n.toNat)) s) = bytesB s ++ xs := by
    intro xs
    induction xs with
    | nil => intro s _; simp
    | cons x xs ih =>
      intro s h
      obtain ⟨h0, h1⟩ := h x (by simp)
      rw [List.foldl_cons, ih _ fun v hv => h v (List.mem_cons_of_mem _ hv)]
      have e : bytesB (s.push (UInt8.ofNat x.toNat)) = bytesB s ++ [x] := by
        unfold bytesB
        simp [ByteArray.push]
        omega
      rw [e, List.append_assoc]
      rfl
  intro xs h
  unfold textB
  rw [key xs _ h]
  rfl
theorem quo_pos {r n : Int} (h0 : 0 ≤ r) (h1 : r ≤ 2000000) (hn : 1 ≤ n) (hn2 : n ≤ 1000000) : quo? .i64 r n = some (r / n) := by
  unfold quo?
  have h2 : r / n ≤ r := Int.ediv_le_self _ h0
  have h3 : 0 ≤ r / n := Int.ediv_nonneg h0 (by omega)
  rw [if_neg (by omega), Int.tdiv_eq_ediv_of_nonneg h0, wrapS (by omega) (by omega)]
theorem rem_pos {r n : Int} (h0 : 0 ≤ r) (hn : 1 ≤ n) : rem? r n = some (r % n) := by
  unfold rem?
  rw [if_neg (by omega), Int.tmod_eq_emod_of_nonneg h0]
theorem w8 {n : Int} (h0 : 0 ≤ n) (h1 : n ≤ 255) : IntKind.u8.wrap n = n := by rw [IntKind.wrap_u8]; omega
theorem u8s_in {r : Int} (h0 : 0 ≤ r) (h1 : r ≤ 1114111) : ∀ u ∈ u8s r, 0 ≤ u ∧ u < 256 := by
  unfold u8s
  intro u hu
  split at hu
  · simp at hu; omega
  · split at hu
    · simp at hu; omega
    · split at hu
      · simp at hu; omega
      · simp at hu; omega
theorem p_l1Utf8 (r : Int) (h0 : 0 ≤ r) (h1 : r ≤ 1114111) : spec_l1Utf8.f r = some (textB (u8s r)) := by
  unfold spec_l1Utf8.f u8s
  simp only [quo_pos (r := r) h0 (by omega) (show (1 : Int) ≤ 64 by omega) (by omega), quo_pos (r := r) h0 (by omega) (show (1 : Int) ≤ 4096 by omega) (by omega), quo_pos (r := r) h0 (by omega) (show (1 : Int) ≤ 262144 by omega) (by omega), rem_pos (r := r) h0 (show (1 : Int) ≤ 64 by omega), rem_pos (r := r / 64) (n := 64) (by omega) (by omega), rem_pos (r := r / 4096) (n := 64) (by omega) (by omega), Option.bind_some]
  by_cases c1 : r < 128
  · rw [if_pos (by simpa using c1), if_pos c1, w8 (by omega) (by omega)]
  · rw [if_neg (by simpa using c1), if_neg c1]
    by_cases c2 : r < 2048
    · rw [if_pos (by simpa using c2), if_pos c2, wrapS (n := 192 + r / 64) (by omega) (by omega), wrapS (n := 128 + r % 64) (by omega) (by omega), w8 (n := 192 + r / 64) (by omega) (by omega), w8 (n := 128 + r % 64) (by omega) (by omega)]
    · rw [if_neg (by simpa using c2), if_neg c2]
      by_cases c3 : r < 65536
      · rw [if_pos (by simpa using c3), if_pos c3, wrapS (n := 224 + r / 4096) (by omega) (by omega), wrapS (n := 128 + r / 64 % 64) (by omega) (by omega), wrapS (n := 128 + r % 64) (by omega) (by omega), w8 (n := 224 + r / 4096) (by omega) (by omega), w8 (n := 128 + r / 64 % 64) (by omega) (by omega), w8 (n := 128 + r % 64) (by omega) (by omega)]
      · rw [if_neg (by simpa using c3), if_neg c3, wrapS (n := 240 + r / 262144) (by omega) (by omega), wrapS (n := 128 + r / 4096 % 64) (by omega) (by omega), wrapS (n := 128 + r / 64 % 64) (by omega) (by omega), wrapS (n := 128 + r % 64) (by omega) (by omega), w8 (n := 240 + r / 262144) (by omega) (by omega), w8 (n := 128 + r / 4096 % 64) (by omega) (by omega), w8 (n := 128 + r / 64 % 64) (by omega) (by omega), w8 (n := 128 + r % 64) (by omega) (by omega)]
theorem b_and63 (n : Int) (h0 : 0 ≤ n) (h1 : n < 256) : bits .and .u8 n 63 = n % 64 := by
  obtain ⟨k, rfl⟩ := Int.eq_ofNat_of_zero_le h0
  have : ∀ k : Nat, k < 256 → bits .and .u8 (k : Int) 63 = (k : Int) % 64 := by decide +kernel
  exact this k (by omega)
theorem b_or128 (n : Int) (h0 : 0 ≤ n) (h1 : n < 64) : bits .or .u8 128 n = 128 + n := by
  obtain ⟨k, rfl⟩ := Int.eq_ofNat_of_zero_le h0
  have : ∀ k : Nat, k < 64 → bits .or .u8 128 (k : Int) = 128 + (k : Int) := by decide +kernel
  exact this k (by omega)
theorem b_or192 (n : Int) (h0 : 0 ≤ n) (h1 : n < 32) : bits .or .u8 192 n = 192 + n := by
  obtain ⟨k, rfl⟩ := Int.eq_ofNat_of_zero_le h0
  have : ∀ k : Nat, k < 32 → bits .or .u8 192 (k : Int) = 192 + (k : Int) := by decide +kernel
  exact this k (by omega)
theorem b_or224 (n : Int) (h0 : 0 ≤ n) (h1 : n < 16) : bits .or .u8 224 n = 224 + n := by
  obtain ⟨k, rfl⟩ := Int.eq_ofNat_of_zero_le h0
  have : ∀ k : Nat, k < 16 → bits .or .u8 224 (k : Int) = 224 + (k : Int) := by decide +kernel
  exact this k (by omega)
theorem b_or240 (n : Int) (h0 : 0 ≤ n) (h1 : n < 8) : bits .or .u8 240 n = 240 + n := by
  obtain ⟨k, rfl⟩ := Int.eq_ofNat_of_zero_le h0
  have : ∀ k : Nat, k < 8 → bits .or .u8 240 (k : Int) = 240 + (k : Int) := by decide +kernel
  exact this k (by omega)
theorem b_cont (q : Int) : bits .or .u8 128 (bits .and .u8 (IntKind.u8.wrap q) 63) = 128 + q % 64 := by
  have e : IntKind.u8.wrap q = q % 256 := by rw [IntKind.wrap_u8]
  rw [e, b_and63 _ (by omega) (by omega), b_or128 _ (by omega) (by omega)]
  omega
theorem shr32 (r : Int) (k : Nat) (hk : k ≤ 20) : shrK? .i32 r (k : Int) = some (r / 2 ^ k) := by
  unfold shrK?
  have e : min ((k : Int)).toNat IntKind.i32.bits = k := by
    have : IntKind.i32.bits = 32 := rfl
    rw [this]
    omega
  rw [if_pos (by omega), e, Int.fdiv_eq_ediv_of_nonneg _ (by exact Int.pow_nonneg (by omega))]
theorem p_AppendRune (x : List Int) (r : Int) (hr : okRune r = true) (hx : x.length ≤ 1000000) : utf8_AppendRune.f x r = some (x ++ u8s r) := by
  simp only [okRune, Bool.and_eq_true, decide_eq_true_eq, Bool.not_eq_true', Bool.and_eq_false_iff, decide_eq_false_iff_not] at hr
  obtain ⟨⟨h0, h1⟩, h2⟩ := hr
  have u32 : IntKind.u32.wrap r = r := by rw [IntKind.wrap_u32]; omega
  have s6 : shrK? .i32 r 6 = some (r / 64) := shr32 r 6 (by omega)
  have s12 : shrK? .i32 r 12 = some (r / 4096) := shr32 r 12 (by omega)
  have s18 : shrK? .i32 r 18 = some (r / 262144) := shr32 r 18 (by omega)
  unfold utf8_AppendRune.f utf8_appendRuneNonASCII.f u8s
  simp only [u32, s6, s12, s18, Option.bind_some, b_cont]
  by_cases c1 : r < 128
  · rw [if_pos (by simp; omega), if_pos c1, app?_at (by simp; omega), w8 (by omega) (by omega)]
    rfl
  · rw [if_neg (by simp; omega), if_neg c1]
    by_cases c2 : r < 2048
    · rw [if_pos (by simp; omega), if_pos c2, app?_at (by simp; omega), w8 (n := r / 64) (by omega) (by omega), b_or192 _ (by omega) (by omega)]
      rfl
    · rw [if_neg (by simp; omega), if_neg c2]
      by_cases c3 : r < 65536
      · have d1 : (if decide (r < 55296) = true then some (decide (r < 55296)) else if decide (57343 < r) = true then some (decide (r ≤ 65535)) else some false) = some true := by
          by_cases c4 : r < 55296
          · simp [c4]
          · have c5 : 57343 < r := by omega
            have c6 : r ≤ 65535 := by omega
            simp [c4, c5, c6]
        rw [d1]
        simp only [Option.bind_some, if_true]
        rw [if_pos c3, app?_at (by simp; omega), w8 (n := r / 4096) (by omega) (by omega), b_or224 _ (by omega) (by omega)]
        rfl
      · have d1 : (if decide (r < 55296) = true then some (decide (r < 55296)) else if decide (57343 < r) = true then some (decide (r ≤ 65535)) else some false) = some false := by
          have c4 : ¬ r < 55296 := by omega
          have c5 : 57343 < r := by omega
          have c6 : ¬ r ≤ 65535 := by omega
          simp [c4, c5, c6]
        have d2 : (if decide (r > 65535) = true then some (decide (r ≤ 1114111)) else some false) = some true := by
          have c5 : r > 65535 := by omega
          simp [c5, h1]
        rw [d1]
        simp only [Option.bind_some, Bool.false_eq_true, if_false]
        rw [d2]
        simp only [Option.bind_some, if_true]
        rw [if_neg c3, app?_at (by simp; omega), w8 (n := r / 262144) (by omega) (by omega), b_or240 _ (by omega) (by omega)]
        rfl
theorem p_areRunes (p : List Int) (n : Int) (hp : p.length ≤ big) : impl_areRunes.f p n = some (decide ((p.length : Int) ≤ n) && p.all okRune) := by
  unfold impl_areRunes.f slices_ContainsFunc_int_int_impl_areRunes_1.f slices_IndexFunc_int_int_impl_areRunes_1.f
  by_cases h : (p.length : Int) ≤ n
  · rw [if_pos (by simpa using h)]
    have := scan_loop p hp (fun u => !okRune u) (fun i _ => i) (slices_IndexFunc_int_int_impl_areRunes_1.l1 p) (fun k i => by rw [slices_IndexFunc_int_int_impl_areRunes_1.l1]; simp only [impl_areRunes_1.f, p_implRune, Option.bind_some]) (((p.length : Int) - 0).toNat + 2) 0 (by omega) (by omega)
    rw [show ((0 : Nat) : Int) = 0 from rfl] at this
    rw [this, List.drop_zero]
    have e : p.all okRune = !(p.any fun u => !okRune u) := List.all_eq_not_any_not
    rw [e]
    cases hf : p.findIdx? (fun u => !okRune u) with
    | none =>
      have : p.any (fun u => !okRune u) = false := by
        rw [List.findIdx?_eq_none_iff] at hf
        simpa using hf
      rw [this]; simp [h]
    | some j =>
      obtain ⟨hj, h1, h2⟩ := List.findIdx?_eq_some_iff_getElem.1 hf
      have : p.any (fun u => !okRune u) = true := List.any_eq_true.2 ⟨_, List.getElem_mem hj, h1⟩
      rw [this]
      simp [hj]
  · rw [if_neg (by simpa using h)]
    simp [h]
def u8All (p : List Int) : List Int := p.flatMap u8s
theorem u8All_len (p : List Int) : (u8All p).length ≤ 4 * p.length := by
  induction p with
  | nil => simp [u8All]
  | cons x p ih =>
    have h1 := u8s_len x
    have e : u8All (x :: p) = u8s x ++ u8All p := rfl
    rw [e, List.length_append, List.length_cons]
    omega
theorem p_textLoop (p : List Int) (hp : p.length ≤ 2000) (ho : ∀ u ∈ p, okRune u = true) : ∀ (k i : Nat) (out : List Int), i ≤ p.length → p.length - i < k → out.length ≤ 4 * i →
    impl_textOf.l1 p k out i = some (out ++ u8All (p.drop i)) ∧ spec_l1TextOf.l1 p k out i = some (out ++ u8All (p.drop i)) := by
  intro k
  induction k with
  | zero => intro i out _ h; omega
  | succ k ih =>
    intro i out hi hk hl
    rw [impl_textOf.l1, spec_l1TextOf.l1]
    by_cases h : i < p.length
    · have hr := ho p[i] (List.getElem_mem h)
      have hr' := hr
      simp only [okRune, Bool.and_eq_true, decide_eq_true_eq] at hr'
      have h32 : IntKind.i32.wrap p[i] = p[i] := by rw [IntKind.wrap_i32]; omega
      have hu := u8s_len p[i]
      have hb := bytes_text (u8s p[i]) (u8s_in hr'.1.1 hr'.1.2)
      obtain ⟨e1, e2⟩ := ih (i + 1) (out ++ u8s p[i]) h (by omega) (by rw [List.length_append]; omega)
      have hd : u8All (p.drop i) = u8s p[i] ++ u8All (p.drop (i + 1)) := by rw [List.drop_eq_getElem_cons h]; rfl
      rw [hd, ← List.append_assoc]
      constructor
      · rw [if_pos (by simpa using h), rd?_at h]
        simp only [Option.bind_some]
        rw [h32, p_AppendRune out p[i] hr (by omega)]
        simp only [Option.bind_some]
        rw [wrapN i (by omega)]
        exact e1
      · rw [if_pos (by simpa using h), rd?_at h]
        simp only [Option.bind_some]
        rw [p_l1Utf8 _ hr'.1.1 hr'.1.2]
        simp only [Option.bind_some]
        rw [hb, app?_at (by omega)]
        simp only [Option.bind_some]
        rw [wrapN i (by omega)]
        exact e2
    · obtain rfl : i = p.length := by omega
      have hd : u8All (p.drop p.length) = [] := by rw [List.drop_length]; rfl
      rw [if_neg (by simp), if_neg (by simp), hd, List.append_nil]
      exact ⟨rfl, rfl⟩
theorem p_textOf (p : List Int) (hp : p.length ≤ 2000) (ho : ∀ u ∈ p, okRune u = true) : impl_textOf.f p = some (textB (u8All p)) ∧ spec_l1TextOf.f p = some (textB (u8All p)) := by
  obtain ⟨e1, e2⟩ := p_textLoop p hp ho (((p.length : Int) - 0).toNat + 2) 0 [] (by omega) (by omega) (by simp)
  rw [show ((0 : Nat) : Int) = 0 from rfl, List.drop_zero, List.nil_append] at e1 e2
  constructor
  · unfold impl_textOf.f
    rw [e1]
    rfl
  · unfold spec_l1TextOf.f
    rw [e2]
    rfl
theorem p_TextOf (p : List Int) (hp : p.length ≤ big) : ∃ r : ByteArray × Bool, impl_TextOf.f p = some r ∧ spec_TextOf.f p = some r := by
  unfold impl_TextOf.f spec_TextOf.f
  rw [p_areRunes p 1000 hp, p_allRunes p hp]
  have e : decide (p.length ≤ 1000) = decide ((p.length : Int) ≤ 1000) := by rw [Bool.eq_iff_iff]; simp; omega
  rw [e, Bool.and_comm]
  simp only [Option.bind_some]
  cases hs : (p.all okRune && decide ((p.length : Int) ≤ 1000)) with
  | false => exact ⟨(⟨#[]⟩, false), rfl, rfl⟩
  | true =>
    simp only [Bool.and_eq_true, List.all_eq_true, decide_eq_true_eq] at hs
    obtain ⟨e1, e2⟩ := p_textOf p (by omega) hs.1
    simp only [Bool.not_true, Bool.false_eq_true, if_false, e1, e2, Option.bind_some]
    split
    · exact ⟨(⟨#[]⟩, false), rfl, by simp⟩
    · exact ⟨_, rfl, by simp⟩
theorem p_rowOf (w h : Int) (cs : List Int) (x y : Int) (n : Nat) (hs : okScreen w h cs x y = true) (hn : (n : Int) < h) : ∃ row, impl_Screen_rowOf.f w h cs x y n = some row ∧ spec_l16Row.f w h cs x y n = some row ∧ row.length ≤ 20 := by
  simp only [okScreen, Bool.and_eq_true, decide_eq_true_eq] at hs
  obtain ⟨row, hr, e⟩ := p_row w h cs x y n hs.1.1.1.1.1.1 hs.1.1.1.1.1.2 hs.1.1.1.1.2.2 (by omega) hs.1.2
  have hrl : row.length ≤ 20 := by omega
  unfold impl_Screen_rowOf.f spec_l16Row.f impl_Screen_row.f slices_Clone_int_int.f spec_l1Own.f
  rw [e]
  simp only [Option.bind_some]
  rw [app?_at (by simp; omega)]
  simp only [Option.bind_some, List.nil_append]
  have t1 := p_trim_l impl_Screen_rowOf.l1 (fun _ _ => rfl) ((((row.length : Int)) - (0)).toNat + 2) row (by omega) (by unfold big; omega)
  have t2 := p_trim_l spec_l16Row.l1 (fun _ _ => rfl) ((((row.length : Int)) - (0)).toNat + 2) row (by omega) (by unfold big; omega)
  rw [t1, t2]
  simp only [Option.bind_some]
  have hl := trim_len row.length row
  rw [app?_at (by simp; omega)]
  simp only [Option.bind_some, List.nil_append]
  exact ⟨_, rfl, rfl, by omega⟩
theorem p_lines (w h : Int) (cs : List Int) (x y : Int) (m : Nat) (hm : h = m) (hs : okScreen w h cs x y = true) : ∀ (k i : Nat) (out : List Int), i ≤ m → m - i < k → out.length ≤ 21 * i → ∃ o, impl_ScreenText.l1 w h cs x y k out i = some o ∧ spec_ScreenText.l1 w h cs x y k out i = some o ∧ o.length ≤ 21 * m := by
  have hm8 : m ≤ 8 := by
    simp only [okScreen, Bool.and_eq_true, decide_eq_true_eq] at hs
    omega
  intro k
  induction k with
  | zero => intro i out _ h; omega
  | succ k ih =>
    intro i out hi hk hl
    rw [impl_ScreenText.l1, spec_ScreenText.l1]
    by_cases hlt : i < m
    · have c1 : decide ((i : Int) < h) = true := by rw [decide_eq_true_eq]; omega
      obtain ⟨row, e1, e2, e3⟩ := p_rowOf w h cs x y i hs (by omega)
      have a1 : app? 17592186044416 out row = some (out ++ row) := app?_at (by omega)
      have a2 : app? 17592186044416 (out ++ row) [10] = some (out ++ row ++ [10]) := app?_at (by simp; omega)
      simp only [c1, if_true, e1, e2, a1, a2, Option.bind_some, wrapN i (by omega)]
      exact ih (i + 1) _ hlt (by omega) (by simp; omega)
    · have c1 : decide ((i : Int) < h) = false := by rw [decide_eq_false_iff_not]; omega
      simp only [c1, Bool.false_eq_true, if_false]
      exact ⟨out, rfl, rfl, by have : i = m := by omega
                               rw [← this]; exact hl⟩
theorem p_ScreenText (w h : Int) (cs : List Int) (x y : Int) (hc : cs.length ≤ big) : ∃ r : ByteArray × Bool, impl_ScreenText.f w h cs x y = some r ∧ spec_ScreenText.f w h cs x y = some r := by
  unfold impl_ScreenText.f spec_ScreenText.f
  simp only [p_implScreen w h cs x y hc, p_specScreen w h cs x y hc, Option.bind_some]
  cases hs : okScreen w h cs x y with
  | false => exact ⟨(⟨#[]⟩, false), rfl, rfl⟩
  | true =>
    simp only [Bool.not_true, Bool.false_eq_true, if_false]
    have hs' := hs
    simp only [okScreen, Bool.and_eq_true, decide_eq_true_eq] at hs'
    obtain ⟨m, hm⟩ := Int.eq_ofNat_of_zero_le (show 0 ≤ h by omega)
    obtain ⟨o, e1, e2, e3⟩ := p_lines w h cs x y m hm hs ((h - 0).toNat + 2) 0 [] (by omega) (by omega) (by simp)
    rw [show ((0 : Nat) : Int) = 0 from rfl] at e1 e2
    rw [e1, e2]
    simp only [Option.bind_some]
    obtain ⟨r, g1, g2⟩ := p_TextOf o (by unfold big; omega)
    rw [g1, g2]
    exact ⟨_, rfl, rfl⟩
theorem law_ScreenText (w h : Int) (cs : List Int) (x y : Int) (_ : inK .i64 w) (_ : inK .i64 h) (hc : allW (inK .i64) cs) (_ : inK .i64 x) (_ : inK .i64 y) : laws_FnExactScreenText.f w h cs x y = some true := by
  unfold laws_FnExactScreenText.f
  obtain ⟨u, e, hu⟩ := p_szScreen w h cs x y 1048576 (by decide) (by decide) hc.1
  rw [e]
  simp only [Option.bind_some]
  by_cases h0 : u < 0
  · rw [if_pos (by simpa using h0)]
  rw [if_neg (by simpa using h0)]
  have hcb : cs.length ≤ big := by unfold big; omega
  obtain ⟨r, e1, e2⟩ := p_ScreenText w h cs x y hcb
  simp [p_toScreen w h cs x y hcb, e1, e2, p_eqScreen w h cs x y hcb]
end Go.Proofs.Ytopecknfnhocpaa
