/- Plain laws of the printed functions. Conditions as each lemma says. -/
import Derived.Test.YtaojkgkajppkaaaDoorPB
import Derived.Test.YtaojkgkajppkaaaDoorWLSession4
set_option linter.unusedVariables false
set_option linter.unusedSimpArgs false
namespace Go.Proofs.YtaojkgkajppkaaaDoor
open Go Go.Proofs.GL
theorem p_l1In (a b c : Int) : zd.f a b c = some (decide (b ≤ a) && decide (a ≤ c)) := by
  unfold zd.f
  by_cases h : b ≤ a
  · rw [if_pos (by simpa using h)]; simp [h]
  · rw [if_neg (by simpa using h)]; simp [h]
theorem p_inRange (a b c : Int) : z0m.f a b c = some (decide (b ≤ a) && decide (a ≤ c)) := by
  unfold z0m.f
  by_cases h : b ≤ a
  · rw [if_pos (by simpa using h)]; simp [h]
  · rw [if_neg (by simpa using h)]; simp [h]
def okRune (r : Int) : Bool := decide (0 ≤ r) && decide (r ≤ 1114111) && !(decide (55296 ≤ r) && decide (r ≤ 57343))
theorem p_specRune (r : Int) : zg.f r = some (okRune r) := by
  unfold zg.f okRune
  simp only [p_l1In, Option.bind_some]
  cases (decide (0 ≤ r) && decide (r ≤ 1114111)) <;> rfl
theorem p_implRune (r : Int) : z0u.f r = some (okRune r) := by
  unfold z0u.f okRune
  simp only [p_inRange, Option.bind_some]
  cases (decide (0 ≤ r) && decide (r ≤ 1114111)) <;> rfl
theorem p_allRunes (p : List Int) (hp : p.length ≤ big) : zo.f p = some (p.all okRune && decide (p.length ≤ 1000)) := by
  unfold zo.f
  have := all_loop p hp (fun u => !okRune u) false (zo.l1 p) (fun k i => by rw [zo.l1]; simp only [p_specRune, Option.bind_some]) (((p.length : Int) - 0).toNat + 2) 0 (by omega) (by omega)
  rw [show ((0 : Nat) : Int) = 0 from rfl] at this
  rw [this, List.drop_zero]
  have e : p.any (fun u => !okRune u) = !p.all okRune := by rw [List.all_eq_not_any_not]; simp
  rw [e]
  cases h : p.all okRune <;> simp
  omega
/-- The bytes of a rune. -/
def u8s (r : Int) : List Int := if r < 128 then [r] else if r < 2048 then [192 + r / 64, 128 + r % 64] else if r < 65536 then [224 + r / 4096, 128 + r / 64 % 64, 128 + r % 64] else [240 + r / 262144, 128 + r / 4096 % 64, 128 + r / 64 % 64, 128 + r % 64]
theorem u8s_len (r : Int) : (u8s r).length ≤ 4 := by
  unfold u8s
  split
  · simp
  · split
    · simp
    · split <;> simp
theorem bytes_text : ∀ (xs : List Int), (∀ u ∈ xs, 0 ≤ u ∧ u < 256) → y9 (textB xs) = xs := by
  have key : ∀ (xs : List Int) (s : ByteArray), (∀ u ∈ xs, 0 ≤ u ∧ u < 256) → y9 (xs.foldl (fun s n => s.push (UInt8.ofNat n.toNat)) s) = y9 s ++ xs := by
    intro xs
    induction xs with
    | nil => intro s _; simp
    | cons x xs ih =>
      intro s h
      obtain ⟨h0, h1⟩ := h x (by simp)
      rw [List.foldl_cons, ih _ fun v hv => h v (List.mem_cons_of_mem _ hv)]
      have e : y9 (s.push (UInt8.ofNat x.toNat)) = y9 s ++ [x] := by
        unfold y9
        simp [ByteArray.push]
        omega
      rw [e, List.append_assoc]
      rfl
  intro xs h
  unfold textB
  rw [key xs _ h]
  rfl
theorem quo_pos {r n : Int} (h0 : 0 ≤ r) (h1 : r ≤ 2000000) (hn : 1 ≤ n) (hn2 : n ≤ 1000000) : quo? .i64 r n = some (r / n) := by
  unfold quo?
  have h2 : r / n ≤ r := Int.ediv_le_self _ h0
  have h3 : 0 ≤ r / n := Int.ediv_nonneg h0 (by omega)
  rw [if_neg (by omega), Int.tdiv_eq_ediv_of_nonneg h0, y08 (by omega) (by omega)]
theorem rem_pos {r n : Int} (h0 : 0 ≤ r) (hn : 1 ≤ n) : rem? r n = some (r % n) := by
  unfold rem?
  rw [if_neg (by omega), Int.tmod_eq_emod_of_nonneg h0]
theorem w8 {n : Int} (h0 : 0 ≤ n) (h1 : n ≤ 255) : IntKind.u8.wrap n = n := by rw [IntKind.wrap_u8]; omega
theorem u8s_in {r : Int} (h0 : 0 ≤ r) (h1 : r ≤ 1114111) : ∀ u ∈ u8s r, 0 ≤ u ∧ u < 256 := by
  unfold u8s
  intro u hu
  split at hu
  · simp at hu; omega
  · split at hu
    · simp at hu; omega
    · split at hu
      · simp at hu; omega
      · simp at hu; omega
theorem p_l1Utf8 (r : Int) (h0 : 0 ≤ r) (h1 : r ≤ 1114111) : zh.f r = some (textB (u8s r)) := by
  unfold zh.f u8s
  simp only [quo_pos (r := r) h0 (by omega) (show (1 : Int) ≤ 64 by omega) (by omega), quo_pos (r := r) h0 (by omega) (show (1 : Int) ≤ 4096 by omega) (by omega), quo_pos (r := r) h0 (by omega) (show (1 : Int) ≤ 262144 by omega) (by omega), rem_pos (r := r) h0 (show (1 : Int) ≤ 64 by omega), rem_pos (r := r / 64) (n := 64) (by omega) (by omega), rem_pos (r := r / 4096) (n := 64) (by omega) (by omega), Option.bind_some]
  by_cases c1 : r < 128
  · rw [if_pos (by simpa using c1), if_pos c1, w8 (by omega) (by omega)]
  · rw [if_neg (by simpa using c1), if_neg c1]
    by_cases c2 : r < 2048
    · rw [if_pos (by simpa using c2), if_pos c2, y08 (n := 192 + r / 64) (by omega) (by omega), y08 (n := 128 + r % 64) (by omega) (by omega), w8 (n := 192 + r / 64) (by omega) (by omega), w8 (n := 128 + r % 64) (by omega) (by omega)]
    · rw [if_neg (by simpa using c2), if_neg c2]
      by_cases c3 : r < 65536
      · rw [if_pos (by simpa using c3), if_pos c3, y08 (n := 224 + r / 4096) (by omega) (by omega), y08 (n := 128 + r / 64 % 64) (by omega) (by omega), y08 (n := 128 + r % 64) (by omega) (by omega), w8 (n := 224 + r / 4096) (by omega) (by omega), w8 (n := 128 + r / 64 % 64) (by omega) (by omega), w8 (n := 128 + r % 64) (by omega) (by omega)]
      · rw [if_neg (by simpa using c3), if_neg c3, y08 (n := 240 + r / 262144) (by omega) (by omega), y08 (n := 128 + r / 4096 % 64) (by omega) (by omega), y08 (n := 128 + r / 64 % 64) (by omega) (by omega), y08 (n := 128 + r % 64) (by omega) (by omega), w8 (n := 240 + r / 262144) (by omega) (by omega), w8 (n := 128 + r / 4096 % 64) (by omega) (by omega), w8 (n := 128 + r / 64 % 64) (by omega) (by omega), w8 (n := 128 + r % 64) (by omega) (by omega)]
theorem b_and63 (n : Int) (h0 : 0 ≤ n) (h1 : n < 256) : bits .and .u8 n 63 = n % 64 := by
  obtain ⟨k, rfl⟩ := Int.eq_ofNat_of_zero_le h0
  have : ∀ k : Nat, k < 256 → bits .and .u8 (k : Int) 63 = (k : Int) % 64 := by decide +kernel
  exact this k (by omega)
theorem b_or128 (n : Int) (h0 : 0 ≤ n) (h1 : n < 64) : bits .or .u8 128 n = 128 + n := by
  obtain ⟨k, rfl⟩ := Int.eq_ofNat_of_zero_le h0
  have : ∀ k : Nat, k < 64 → bits .or .u8 128 (k : Int) = 128 + (k : Int) := by decide +kernel
  exact this k (by omega)
theorem b_or192 (n : Int) (h0 : 0 ≤ n) (h1 : n < 32) : bits .or .u8 192 n = 192 + n := by
  obtain ⟨k, rfl⟩ := Int.eq_ofNat_of_zero_le h0
  have : ∀ k : Nat, k < 32 → bits .or .u8 192 (k : Int) = 192 + (k : Int) := by decide +kernel
  exact this k (by omega)
theorem b_or224 (n : Int) (h0 : 0 ≤ n) (h1 : n < 16) : bits .or .u8 224 n = 224 + n := by
  obtain ⟨k, rfl⟩ := Int.eq_ofNat_of_zero_le h0
  have : ∀ k : Nat, k < 16 → bits .or .u8 224 (k : Int) = 224 + (k : Int) := by decide +kernel
  exact this k (by omega)
theorem b_or240 (n : Int) (h0 : 0 ≤ n) (h1 : n < 8) : bits .or .u8 240 n = 240 + n := by
  obtain ⟨k, rfl⟩ := Int.eq_ofNat_of_zero_le h0
  have : ∀ k : Nat, k < 8 → bits .or .u8 240 (k : Int) = 240 + (k : Int) := by decide +kernel
  exact this k (by omega)
theorem b_cont (q : Int) : bits .or .u8 128 (bits .and .u8 (IntKind.u8.wrap q) 63) = 128 + q % 64 := by
  have e : IntKind.u8.wrap q = q % 256 := by rw [IntKind.wrap_u8]
  rw [e, b_and63 _ (by omega) (by omega), b_or128 _ (by omega) (by omega)]
  omega
theorem shr32 (r : Int) (k : Nat) (hk : k ≤ 20) : shrK? .i32 r (k : Int) = some (r / 2 ^ k) := by
  unfold shrK?
  have e : min ((k : Int)).toNat IntKind.i32.bits = k := by
    have : IntKind.i32.bits = 32 := rfl
    rw [this]
    omega
  rw [if_pos (by omega), e, Int.fdiv_eq_ediv_of_nonneg _ (by exact Int.pow_nonneg (by omega))]
def wZ {α : Type} (_ : α) : Int := 0
def wStr (s : ByteArray) : Int := s.size
def wL {α : Type} (w : α → Int) (p : List α) : Int := p.length + sumW w p
def okZ {α : Type} (_ : α) : Prop := True
def okStr (s : ByteArray) : Prop := s.size ≤ maxN
def okL {α : Type} (ok : α → Prop) (p : List α) : Prop := p.length ≤ maxN ∧ ∀ u ∈ p, ok u
theorem wZ_pos {α : Type} (u : α) : 0 ≤ wZ u := Int.le_refl _
theorem wStr_pos (s : ByteArray) : 0 ≤ wStr s := by unfold wStr; omega
theorem wL_pos {α : Type} {w : α → Int} (h : ∀ u, 0 ≤ w u) (p : List α) : 0 ≤ wL w p := by
  have := sumW_pos (w := w) (us := p) fun u _ => h u
  unfold wL
  omega
theorem wL_len {α : Type} {w : α → Int} (h : ∀ u, 0 ≤ w u) (p : List α) : (p.length : Int) ≤ wL w p := by
  have := sumW_pos (w := w) (us := p) fun u _ => h u
  unfold wL
  omega
theorem wL_big {α : Type} {w : α → Int} (h : ∀ u, 0 ≤ w u) {p : List α} (hp : wL w p ≤ 1000000000) : p.length ≤ big := by
  have := wL_len h p
  unfold big
  omega
theorem wL_cap {α : Type} {w : α → Int} (h : ∀ u, 0 ≤ w u) {p : List α} (hp : wL w p ≤ 1000000000) {n : Nat} (hn : 1000000000 ≤ n) : p.length ≤ n := by
  have := wL_len h p
  omega
theorem wL_mem {α : Type} {w : α → Int} (h : ∀ u, 0 ≤ w u) {p : List α} (hp : wL w p ≤ 1000000000) {u : α} (hu : u ∈ p) : w u ≤ 1000000000 := by
  have := sumW_mem (w := w) (us := p) (fun u _ => h u) u hu
  unfold wL at hp
  omega
theorem sumW_zero {α : Type} {w : α → Int} : ∀ p : List α, (∀ u, w u = 0) → sumW w p = 0
  | [], _ => rfl
  | u :: us, h => by
    have := sumW_zero us h
    have := h u
    unfold sumW
    omega
theorem wL_int (p : List Int) : wL wZ p = p.length := by
  have := sumW_zero (w := wZ) p fun _ => rfl
  unfold wL
  omega
theorem rd_mid {α : Type} (pre : List α) (u : α) (us : List α) : rd? (pre ++ u :: us) (pre.length : Int) = some u := by rw [rd?_at (by simp)]; simp
theorem st_mid {α : Type} (pre : List α) (u v : α) (us : List α) : st? (pre ++ u :: us) (pre.length : Int) v = some (pre ++ v :: us) := by rw [st?_at _ (by simp)]; simp
theorem baT (b : ByteArray) : b.toList = b.data.toList := by
  have key : ∀ (k i : Nat) (r : List UInt8), b.size - i ≤ k → ByteArray.toList.loop b i r = r.reverse ++ b.data.toList.drop i := by
    intro k
    induction k with
    | zero =>
      intro i r h
      rw [ByteArray.toList.loop]
      rw [if_neg (by omega)]
      rw [List.drop_of_length_le (by simp; have : b.data.size = b.size := rfl; omega)]
      simp
    | succ k ih =>
      intro i r h
      rw [ByteArray.toList.loop]
      by_cases hi : i < b.size
      · rw [if_pos hi, ih (i+1) _ (by omega)]
        have hs : i < b.data.toList.length := by simpa using hi
        rw [List.drop_eq_getElem_cons hs]
        have e : b.get! i = b.data.toList[i] := by
          have h2 : i < b.data.size := hi
          show b.data[i]! = _
          rw [getElem!_pos b.data i h2]
          simp
        simp [e]
      · rw [if_neg hi, List.drop_of_length_le (by simp; have : b.data.size = b.size := rfl; omega)]
        simp
  have := key b.size 0 [] (by omega)
  simpa [ByteArray.toList] using this
theorem baInj {a b : ByteArray} : (a.toList == b.toList) = decide (a = b) := by
  rw [baT, baT, Bool.eq_iff_iff]
  simp only [beq_iff_eq, decide_eq_true_eq]
  constructor
  · intro h
    obtain ⟨⟨x⟩⟩ := a
    obtain ⟨⟨y⟩⟩ := b
    simp at h
    rw [h]
  · rintro rfl; rfl
theorem rdS_at (S : ByteArray) (i : Nat) : rdS? S (i : Int) = (y9 S)[i]? := by
  unfold rdS? y9
  rw [if_pos (by omega), List.getElem?_map, Array.getElem?_toList]
  rfl
theorem bytesB_inj {a b : ByteArray} (h : y9 a = y9 b) : a = b := by
  obtain ⟨⟨x⟩⟩ := a
  obtain ⟨⟨y⟩⟩ := b
  unfold y9 at h
  have h2 : x = y := by
    have key : ∀ x y : List UInt8, x.map (fun b : UInt8 => (b.toNat : Int)) = y.map (fun b : UInt8 => (b.toNat : Int)) → x = y := by
      intro x
      induction x with
      | nil => intro y h; cases y with
        | nil => rfl
        | cons _ _ => cases h
      | cons u x ih =>
        intro y h
        cases y with
        | nil => cases h
        | cons v y =>
          simp only [List.map_cons, List.cons.injEq] at h
          have : u = v := UInt8.toNat_inj.1 (by omega)
          rw [this, ih y h.2]
    exact key x y h
  rw [h2]
theorem strB (a b : ByteArray) : (a.toList == b.toList) = decide (y9 a = y9 b) := by
  rw [baInj, Bool.eq_iff_iff]
  simp only [decide_eq_true_eq]
  exact ⟨fun h => by rw [h], bytesB_inj⟩
theorem bytes_rng (S : ByteArray) : ∀ u ∈ y9 S, 0 ≤ u ∧ u < 256 := by
  unfold y9
  intro u hu
  obtain ⟨b, _, rfl⟩ := List.mem_map.1 hu
  have := b.toNat_lt
  omega
theorem bytes_nil : y9 (⟨#[]⟩ : ByteArray) = [] := rfl
theorem size_bytes (S : ByteArray) : S.size = (y9 S).length := (bytesB_len S).symm
theorem cutS_at (S : ByteArray) {a b : Nat} (h1 : a ≤ b) (h2 : b ≤ S.size) : ∃ T, cutS? S (a : Int) (b : Int) = some T ∧ y9 T = ((y9 S).take b).drop a := by
  unfold cutS?
  rw [if_pos ⟨by omega, by omega, by omega⟩]
  refine ⟨_, rfl, ?_⟩
  unfold y9
  simp [ByteArray.data_extract, List.extract_eq_take_drop, List.map_drop, List.map_take, List.drop_take]
theorem cat_at {n : Nat} {a b : ByteArray} (h : a.size + b.size ≤ n) : ∃ c, cat? n a b = some c ∧ y9 c = y9 a ++ y9 b := by
  unfold cat?
  rw [if_pos h]
  refine ⟨_, rfl, ?_⟩
  unfold y9
  simp
theorem wrapU (n : Int) : 0 ≤ IntKind.u64.wrap n ∧ IntKind.u64.wrap n < 18446744073709551616 := by rw [IntKind.wrap_u64]; omega
theorem p_next (code : List Int) (hc : allW (inK .u8) code) (a s : Int) (h0 : 0 ≤ a) (h1 : a ≤ 1000000000000000) : ∃ n s', za.f code a s = some (n, a + 1, s') ∧ 0 ≤ n ∧ n ≤ 255 := by
  unfold za.f
  have key : ∃ x : Int, (if (decide (a < (code.length : Int))) = true then ((rd? code a).bind fun u10 => some (IntKind.i64.wrap u10)) else (some 0)) = some x ∧ 0 ≤ x ∧ x ≤ 255 := by
    obtain ⟨k, rfl⟩ := Int.eq_ofNat_of_zero_le h0
    by_cases h : k < code.length
    · rw [if_pos (by simpa using h), rd?_at h]
      have hb : -0 ≤ code[k] ∧ code[k] ≤ 255 := by
        have := hc.2 _ (List.getElem_mem h)
        exact this
      simp only [Option.bind_some]
      rw [y08 (by omega) (by omega)]
      exact ⟨_, rfl, by omega, by omega⟩
    · rw [if_neg (by simpa using h)]
      exact ⟨0, rfl, by omega, by omega⟩
  obtain ⟨x, e, x0, x1⟩ := key
  rw [e]
  simp only [Option.bind_some]
  rw [y08 (n := a + 1) (by omega) (by omega)]
  generalize IntKind.u64.wrap (IntKind.u64.wrap (IntKind.u64.wrap (s * 6364136223846793005) + IntKind.u64.wrap x) + 1442695040888963407) = y
  by_cases h : a + 1 ≤ (code.length : Int)
  · rw [if_pos (by simpa using h)]
    exact ⟨x, y, rfl, x0, x1⟩
  · rw [if_neg (by simpa using h)]
    have hs : ∃ q, shrK? .u64 y 40 = some q := ⟨_, by unfold shrK?; rw [if_pos (by decide)]⟩
    obtain ⟨q, hq⟩ := hs
    rw [hq]
    simp only [Option.bind_some]
    have hb : 0 ≤ bits .and .u64 q 255 ∧ bits .and .u64 q 255 ≤ 255 := by
      unfold bits
      dsimp only
      have : (BitVec.ofInt IntKind.u64.bits q &&& BitVec.ofInt IntKind.u64.bits 255).toNat ≤ 255 := by
        rw [BitVec.toNat_and]
        exact Nat.le_trans Nat.and_le_right (by decide)
      rw [IntKind.wrap_u64]
      omega
    rw [y08 (by omega) (by omega)]
    exact ⟨_, y, rfl, hb.1, hb.2⟩
theorem p_pick (code : List Int) (hc : allW (inK .u8) code) (a s n : Int) (h0 : 0 ≤ a) (h1 : a ≤ 1000000000000) : ∃ r a' s', zb.f code a s n = some (r, a', s') ∧ 0 ≤ r ∧ (1 ≤ n → r < n) ∧ (n ≤ 1 → r = 0) ∧ r ≤ 65535 ∧ a ≤ a' ∧ a' ≤ a + 2 := by
  unfold zb.f
  by_cases hn : n ≤ 1
  · rw [if_pos (by simpa using hn)]
    exact ⟨0, a, s, rfl, by omega, by omega, by omega, by omega, by omega, by omega⟩
  · rw [if_neg (by simpa using hn)]
    obtain ⟨x, s1, e1, x0, x1⟩ := p_next code hc a s h0 (by omega)
    rw [e1]
    simp only [Option.bind_some]
    have key : ∀ (v a' s' : Int), 0 ≤ v → v ≤ 65535 → a ≤ a' → a' ≤ a + 2 → ∃ r b' t', (rem? v n).bind (fun u20 => some (u20, a', s')) = some (r, b', t') ∧ 0 ≤ r ∧ (1 ≤ n → r < n) ∧ (n ≤ 1 → r = 0) ∧ r ≤ 65535 ∧ a ≤ b' ∧ b' ≤ a + 2 := by
      intro v a' s' v0 v1 b0 b1
      unfold rem?
      rw [if_neg (by omega)]
      have e := Int.tmod_eq_emod_of_nonneg (b := n) v0
      have hb := Int.emod_lt_of_pos v (show 0 < n by omega)
      have hb0 := Int.emod_nonneg v (show n ≠ 0 by omega)
      have hb1 : v % n ≤ v := by
        by_cases hvn : v < n
        · rw [Int.emod_eq_of_lt v0 hvn]; exact Int.le_refl _
        · omega
      rw [e]
      exact ⟨_, a', s', rfl, hb0, fun _ => hb, by omega, by omega, b0, b1⟩
    by_cases h2 : n > 200
    · rw [if_pos (by simpa using h2)]
      obtain ⟨y, s2, e2, y0, y1⟩ := p_next code hc (a + 1) s1 (by omega) (by omega)
      rw [e2]
      simp only [Option.bind_some]
      rw [y08 (n := x * 256) (by omega) (by omega), y08 (by omega) (by omega)]
      exact key (x * 256 + y) (a + 1 + 1) s2 (by omega) (by omega) (by omega) (by omega)
    · rw [if_neg (by simpa using h2)]
      exact key x (a + 1) s1 (by omega) (by omega) (by omega) (by omega)
/-- A step that ends, and what holds of its end. -/
def Tt {α : Type} (X : Option α) (Φ : α → Prop) : Prop := ∃ r, X = some r ∧ Φ r
theorem Tt.bind {α β : Type} {X : Option α} {f : α → Option β} {Φ : α → Prop} {Ψ : β → Prop} (h : Tt X Φ) (k : ∀ r, Φ r → Tt (f r) Ψ) : Tt (X.bind f) Ψ := by
  obtain ⟨r, rfl, hr⟩ := h
  exact k r hr
theorem Tt.one {α : Type} {r : α} {Φ : α → Prop} (h : Φ r) : Tt (some r) Φ := ⟨r, rfl, h⟩
theorem Tt.ite {α : Type} {c : Prop} [Decidable c] {X Y : Option α} {Φ : α → Prop} (h1 : c → Tt X Φ) (h2 : ¬ c → Tt Y Φ) : Tt (if c then X else Y) Φ := by
  by_cases h : c
  · rw [if_pos h]; exact h1 h
  · rw [if_neg h]; exact h2 h
theorem Tt.mono {α : Type} {X : Option α} {Φ Ψ : α → Prop} (h : Tt X Φ) (k : ∀ r, Φ r → Ψ r) : Tt X Ψ := by
  obtain ⟨r, e, hr⟩ := h
  exact ⟨r, e, k r hr⟩
theorem Tt.cat {n : Nat} {a b : ByteArray} (h : a.size + b.size ≤ n) : Tt (cat? n a b) fun c => c.size = a.size + b.size := by
  obtain ⟨c, e, hc⟩ := cat_at h
  refine ⟨c, e, ?_⟩
  show c.size = a.size + b.size
  rw [size_bytes c, hc, List.length_append, ← size_bytes, ← size_bytes]
theorem Tt.cutS {S : ByteArray} {a b : Int} (h0 : 0 ≤ a) (h1 : a ≤ b) (h2 : b ≤ S.size) : Tt (cutS? S a b) fun c => (c.size : Int) = b - a := by
  obtain ⟨a, rfl⟩ := Int.eq_ofNat_of_zero_le h0
  obtain ⟨b, rfl⟩ := Int.eq_ofNat_of_zero_le (show 0 ≤ b by omega)
  have hb : b ≤ (y9 S).length := by rw [← size_bytes]; omega
  obtain ⟨T, e, hT⟩ := cutS_at S (a := a) (b := b) (by omega) (by omega)
  refine ⟨T, e, ?_⟩
  show (T.size : Int) = _
  rw [size_bytes T, hT, List.length_drop, List.length_take]
  omega
theorem Tt.rd {α : Type} {xs : List α} {i : Int} (h0 : 0 ≤ i) (h : i < xs.length) : Tt (rd? xs i) fun r => r ∈ xs := by
  obtain ⟨k, rfl⟩ := Int.eq_ofNat_of_zero_le h0
  have hk : k < xs.length := by omega
  exact ⟨_, rd?_at hk, List.getElem_mem hk⟩
theorem Tt.app {α : Type} {n : Nat} {xs ys : List α} (h : xs.length + ys.length ≤ n) : Tt (app? n xs ys) fun r => r = xs ++ ys := ⟨_, app?_at h, rfl⟩
theorem Tt.quo {k : IntKind} {x y : Int} (h : y ≠ 0) : Tt (quo? k x y) fun _ => True := ⟨_, if_neg h, trivial⟩
theorem Tt.rem {x y : Int} (h : y ≠ 0) : Tt (rem? x y) fun _ => True := ⟨_, if_neg h, trivial⟩
theorem size_text (xs : List Int) : (textB xs).size = xs.length := by
  have key : ∀ (xs : List Int) (s : ByteArray), (xs.foldl (fun s n => s.push (UInt8.ofNat n.toNat)) s).size = s.size + xs.length := by
    intro xs
    induction xs with
    | nil => intro s; rfl
    | cons x xs ih =>
      intro s
      rw [List.foldl_cons, ih, List.length_cons, ByteArray.size_push]
      omega
  exact (key xs .empty).trans (Nat.zero_add _)
theorem t_next {code : List Int} (hc : allW (inK .u8) code) {a s : Int} (h0 : 0 ≤ a) (h1 : a ≤ 1000000000000) : Tt (za.f code a s) fun r => 0 ≤ r.1 ∧ r.1 ≤ 255 ∧ r.2.1 = a + 1 := by
  obtain ⟨n, s', e, x, y⟩ := p_next code hc a s h0 (by omega)
  exact ⟨_, e, x, y, rfl⟩
theorem t_pick {code : List Int} (hc : allW (inK .u8) code) {a s n : Int} (h0 : 0 ≤ a) (h1 : a ≤ 1000000000000) : Tt (zb.f code a s n) fun r => 0 ≤ r.1 ∧ (1 ≤ n → r.1 < n) ∧ (n ≤ 1 → r.1 = 0) ∧ r.1 ≤ 65535 ∧ a ≤ r.2.1 ∧ r.2.1 ≤ a + 2 := by
  obtain ⟨r, a', s', e, x1, x2, x3, x4, x5, x6⟩ := p_pick code hc a s n h0 h1
  exact ⟨_, e, x1, x2, x3, x4, x5, x6⟩
theorem p_among (code : List Int) (hc : allW (inK .u8) code) (a s : Int) (l : List Int) (hl : l ≠ []) (h0 : 0 ≤ a) (h1 : a ≤ 1000000000000) : ∃ r a' s', zc.f code a s l = some (r, a', s') ∧ r ∈ l ∧ a ≤ a' ∧ a' ≤ a + 2 := by
  unfold zc.f
  have hp : 0 < l.length := List.length_pos_iff.2 hl
  obtain ⟨r, a', s', e, r0, r1, _, _, b0, b1⟩ := p_pick code hc a s (l.length : Int) h0 h1
  rw [e]
  simp only [Option.bind_some]
  obtain ⟨k, rfl⟩ := Int.eq_ofNat_of_zero_le r0
  have hk : k < l.length := by have := r1 (by omega); omega
  rw [rd?_at hk]
  exact ⟨_, a', s', rfl, List.getElem_mem hk, b0, b1⟩
theorem t_among {code : List Int} (hc : allW (inK .u8) code) {a s : Int} {l : List Int} (hl : l ≠ []) (h0 : 0 ≤ a) (h1 : a ≤ 1000000000000) : Tt (zc.f code a s l) fun r => r.1 ∈ l ∧ a ≤ r.2.1 ∧ r.2.1 ≤ a + 2 := by
  obtain ⟨r, a', s', e, x1, x2, x3⟩ := p_among code hc a s l hl h0 h1
  exact ⟨_, e, x1, x2, x3⟩
theorem p_areRunes (p : List Int) (n : Int) (hp : p.length ≤ big) : z0y.f p n = some (decide ((p.length : Int) ≤ n) && p.all okRune) := by
  unfold z0y.f z0x.f z0w.f
  by_cases h : (p.length : Int) ≤ n
  · rw [if_pos (by simpa using h)]
    have := scan_loop p hp (fun u => !okRune u) (fun i _ => i) (z0w.l1 p) (fun k i => by rw [z0w.l1]; simp only [z0v.f, p_implRune, Option.bind_some]) (((p.length : Int) - 0).toNat + 2) 0 (by omega) (by omega)
    rw [show ((0 : Nat) : Int) = 0 from rfl] at this
    rw [this, List.drop_zero]
    have e : p.all okRune = !(p.any fun u => !okRune u) := List.all_eq_not_any_not
    rw [e]
    cases hf : p.findIdx? (fun u => !okRune u) with
    | none =>
      have : p.any (fun u => !okRune u) = false := by
        rw [List.findIdx?_eq_none_iff] at hf
        simpa using hf
      rw [this]; simp [h]
    | some j =>
      obtain ⟨hj, h1, h2⟩ := List.findIdx?_eq_some_iff_getElem.1 hf
      have : p.any (fun u => !okRune u) = true := List.any_eq_true.2 ⟨_, List.getElem_mem hj, h1⟩
      rw [this]
      simp [hj]
  · rw [if_neg (by simpa using h)]
    simp [h]
theorem t_textOf {p : List Int} (hp : p.length ≤ 2000) (ho : ∀ u ∈ p, okRune u = true) : Tt (z0d.f p) fun S => S.size ≤ 4 * p.length := by
  unfold z0d.f
  have key : ∀ (k i : Nat) (out : List Int), i ≤ p.length → p.length - i < k → out.length ≤ 4 * i → Tt (z0d.l1 p k out i) fun r => r.length ≤ 4 * p.length := by
    intro k
    induction k with
    | zero => intro i out _ h; omega
    | succ k ih =>
      intro i out hi hk hl
      rw [z0d.l1]
      refine Tt.ite (fun h => ?_) (fun h => ?_)
      · have h : i < p.length := by simpa using h
        have hr := ho p[i] (List.getElem_mem h)
        simp only [okRune, Bool.and_eq_true, decide_eq_true_eq] at hr
        rw [rd?_at h]
        refine (Tt.one (Φ := fun u => u = p[i]) rfl).bind fun u hu => ?_
        subst hu
        rw [p_l1Utf8 _ hr.1.1 hr.1.2]
        refine (Tt.one (Φ := fun u => u = textB (u8s p[i])) rfl).bind fun u hu => ?_
        subst hu
        rw [bytes_text (u8s p[i]) (u8s_in hr.1.1 hr.1.2)]
        have hu := u8s_len p[i]
        refine (Tt.app (by omega)).bind fun x hx => ?_
        subst hx
        rw [wrapN i (by omega)]
        exact ih (i + 1) _ h (by omega) (by rw [List.length_append]; omega)
      · have h : ¬ i < p.length := by simpa using h
        exact .one (by omega)
  refine (key _ 0 [] (by omega) (by omega) (by simp)).bind fun r hr => ?_
  exact .one (by rw [size_text]; exact hr)
def runeR : List Int := [97, 98, 99, 120, 32, 49, 10, 0, 127, 128, 228, 769, 770, 2047, 2048, 4352, 4449, 12354, 44032, 55295, 57344, 65533, 65536, 128512, 1114111]
theorem runeR_ok : ∀ u ∈ runeR, okRune u = true := by decide
theorem t_rune {code : List Int} (hc : allW (inK .u8) code) {a s : Int} (h0 : 0 ≤ a) (h1 : a ≤ 1000000000000) : Tt (z08.f code a s) fun r => okRune r.1 = true ∧ a ≤ r.2.1 ∧ r.2.1 ≤ a + 2 := by
  unfold z08.f
  refine (t_among hc (l := runeR) (by decide) h0 h1).bind fun r hr => ?_
  exact .one ⟨runeR_ok _ hr.1, hr.2⟩
theorem t_runes {code : List Int} (hc : allW (inK .u8) code) {a s m : Int} (h0 : 0 ≤ a) (h1 : a ≤ 100000000000) (hm0 : 0 ≤ m) (hm : m ≤ 60000) : Tt (z0c.f code a s m) fun r => (r.1.length : Int) ≤ m ∧ (∀ u ∈ r.1, okRune u = true) ∧ a ≤ r.2.1 ∧ r.2.1 ≤ a + 2 + 2 * m := by
  unfold z0c.f
  rw [y08 (by omega) (by omega)]
  refine (t_pick hc h0 (by omega)).bind fun r hr => ?_
  obtain ⟨r, a1, s1⟩ := r
  obtain ⟨r0, r1, _, _, b0, b1⟩ := hr
  dsimp only at *
  obtain ⟨k, rfl⟩ := Int.eq_ofNat_of_zero_le r0
  have hk : (k : Int) < m + 1 := r1 (by omega)
  have key : ∀ (n f : Nat) (l : List Int) (a s : Int), n < f → 0 ≤ a → a + 2 * n ≤ 1000000000000 → (∀ u ∈ l, okRune u = true) → l.length + n ≤ 100000 → Tt (z0c.l1 code f l (n : Int) a s) fun r => r.1.length = l.length + n ∧ (∀ u ∈ r.1, okRune u = true) ∧ a ≤ r.2.1 ∧ r.2.1 ≤ a + 2 * n := by
    intro n
    induction n with
    | zero =>
      intro f l a s hf ha ha2 hl hn
      obtain ⟨f, rfl⟩ := Nat.exists_eq_succ_of_ne_zero (show f ≠ 0 by omega)
      rw [z0c.l1, if_neg (by simp)]
      exact .one ⟨by dsimp only; omega, hl, by dsimp only; omega, by dsimp only; omega⟩
    | succ n ih =>
      intro f l a s hf ha ha2 hl hn
      obtain ⟨f, rfl⟩ := Nat.exists_eq_succ_of_ne_zero (show f ≠ 0 by omega)
      rw [z0c.l1, if_pos (by simp <;> omega)]
      refine (t_rune hc ha (by omega)).bind fun x hx => ?_
      refine (Tt.app (by simp; omega)).bind fun y hy => ?_
      subst hy
      rw [y08 (by omega) (by omega), show ((n + 1 : Nat) : Int) - 1 = (n : Int) by omega]
      refine (ih f (l ++ [x.1]) _ _ (by omega) (by omega) (by omega) (fun u hu => ?_) (by simp; omega)).mono fun r hr => ⟨by rw [hr.1]; simp; omega, hr.2.1, by omega, by omega⟩
      rcases List.mem_append.1 hu with hu | hu
      · exact hl u hu
      · rw [List.mem_singleton.1 hu]; exact hx.1
  refine (key k _ [] a1 s1 (by omega) (by omega) (by omega) (by simp) (by simp; omega)).bind fun r hr => ?_
  obtain ⟨x, y, z⟩ := r
  dsimp only at *
  simp only [List.length_nil, Nat.zero_add] at hr
  exact .one ⟨by dsimp only; omega, hr.2.1, by dsimp only; omega, by dsimp only; omega⟩
theorem p_one (code : List Int) (hc : allW (inK .u8) code) (a s n : Int) (h0 : 0 ≤ a) (h1 : a ≤ 1000000000000) : ∃ (r : Bool) (a' s' : Int), z07.f code a s n = some (r, a', s') ∧ a ≤ a' ∧ a' ≤ a + 2 := by
  unfold z07.f
  obtain ⟨r, a', s', e, _, _, _, _, b0, b1⟩ := p_pick code hc a s n h0 h1
  rw [e]
  exact ⟨_, a', s', rfl, b0, b1⟩
theorem t_one {code : List Int} (hc : allW (inK .u8) code) {a s n : Int} (h0 : 0 ≤ a) (h1 : a ≤ 1000000000000) : Tt (z07.f code a s n) fun r => a ≤ r.2.1 ∧ r.2.1 ≤ a + 2 := by
  obtain ⟨r, a', s', e, x1, x2⟩ := p_one code hc a s n h0 h1
  exact ⟨_, e, x1, x2⟩
theorem t_of {code : List Int} (hc : allW (inK .u8) code) {a s : Int} {l : List ByteArray} (hl : l ≠ []) (h0 : 0 ≤ a) (h1 : a ≤ 1000000000000) : Tt (z0f.f code a s l) fun r => r.1 ∈ l ∧ a ≤ r.2.1 ∧ r.2.1 ≤ a + 2 := by
  unfold z0f.f
  have hp : 0 < l.length := List.length_pos_iff.2 hl
  refine (t_pick hc h0 h1).bind fun r hr => ?_
  refine (Tt.rd hr.1 (hr.2.1 (by omega))).bind fun x hx => ?_
  exact .one ⟨hx, hr.2.2.2.2⟩
/-- How many bytes a rune has that begins with a byte, as Go's table tells it; the bounds of the second. -/
def u8n (a : Int) : Int := if 194 ≤ a ∧ a ≤ 223 then 2 else if 224 ≤ a ∧ a ≤ 239 then 3 else if 240 ≤ a ∧ a ≤ 244 then 4 else if a < 128 then 0 else 1
def u8lo (a : Int) : Int := if a = 224 then 160 else if a = 240 then 144 else 128
def u8hi (a : Int) : Int := if a = 237 then 159 else if a = 244 then 143 else 191
def cont (a : Int) : Prop := 128 ≤ a ∧ a ≤ 191
def sndOk (a b : Int) : Prop := u8lo a ≤ b ∧ b ≤ u8hi a
instance (a : Int) : Decidable (cont a) := by unfold cont; infer_instance
instance (a b : Int) : Decidable (sndOk a b) := by unfold sndOk; infer_instance
def tabChk (a : Nat) : Bool := match rd? u8First (a : Int) with
  | some v => decide (IntKind.i64.wrap (bits .and .u8 v 7) = u8n a) && (decide (u8n a < 2) || (match shrK? .u8 v 4 with
    | some k => decide (rd? y0b k = some (u8lo a, u8hi a))
    | none => false))
  | none => false
theorem tabAll : ∀ a : Nat, a < 256 → tabChk a = true := by decide +kernel
theorem tab_of {a : Int} (h0 : 0 ≤ a) (h1 : a < 256) : ∃ v, rd? u8First a = some v ∧ IntKind.i64.wrap (bits .and .u8 v 7) = u8n a ∧ (2 ≤ u8n a → ∃ k, shrK? .u8 v 4 = some k ∧ rd? y0b k = some (u8lo a, u8hi a)) := by
  obtain ⟨n, rfl⟩ := Int.eq_ofNat_of_zero_le h0
  have := tabAll n (by omega)
  unfold tabChk at this
  cases hv : rd? u8First (n : Int) with
  | none => rw [hv] at this; cases this
  | some v =>
    rw [hv] at this
    simp only [Bool.and_eq_true, Bool.or_eq_true, decide_eq_true_eq] at this
    refine ⟨v, rfl, this.1, fun h2 => ?_⟩
    rcases this.2 with h | h
    · omega
    · cases hk : shrK? .u8 v 4 with
      | none => rw [hk] at h; cases h
      | some k =>
        rw [hk] at h
        exact ⟨k, rfl, by simpa using h⟩
/-- A rune that has begun, and has not ended. -/
def begB : List Int → Bool
  | [a] => decide (2 ≤ u8n a)
  | [a, b] => decide (3 ≤ u8n a) && decide (sndOk a b)
  | [a, b, c] => decide (4 ≤ u8n a) && (decide (sndOk a b) && decide (cont c))
  | _ => false
theorem u8n_le (a : Int) : u8n a ≤ 4 := by unfold u8n; repeat' split <;> omega
/-- The rune at the front, and how many bytes it has. -/
def dec (M : List Int) : Int × Int :=
  let a := M.getD 0 0; let b := M.getD 1 0; let c := M.getD 2 0; let d := M.getD 3 0
  if a < 128 then (a, 1)
  else if u8n a = 2 ∧ sndOk a b then ((a - 192) * 64 + (b - 128), 2)
  else if u8n a = 3 ∧ sndOk a b ∧ cont c then ((a - 224) * 4096 + (b - 128) * 64 + (c - 128), 3)
  else if u8n a = 4 ∧ sndOk a b ∧ cont c ∧ cont d then ((a - 240) * 262144 + (b - 128) * 4096 + (c - 128) * 64 + (d - 128), 4)
  else (65533, 1)
def l1L (a : Int) : Int := if a < 128 then 1 else if a < 192 then 0 else if a < 224 then 2 else if a < 240 then 3 else if a < 248 then 4 else 0
theorem p_l1Long (a : Int) : zf.f a = some (l1L a) := by
  unfold zf.f l1L
  repeat' split
  all_goals first | rfl | (simp at *; omega)
theorem u8s_eq {a b c d x : Int} : (u8s x = [a, b] → x < 128 ∨ 128 ≤ x) := fun _ => by omega
theorem l1At_fin (S : ByteArray) (p m : Nat) (x : Int) (hm : p + m ≤ S.size) (hm2 : 2 ≤ m) (hx0 : 0 ≤ x) (hx1 : x ≤ 2097151) (hS : S.size ≤ 4000000000) :
    (((zg.f x).bind fun u108 => if (!u108) = true then (some true) else ((cutS? S p ((p : Int) + (m : Int))).bind fun u110 => (zh.f x).bind fun u111 => some (!(u111.toList == u110.toList)))).bind fun (o : Bool) => (if o = true then (some ((65533 : Int), (1 : Int))) else (some (x, (m : Int))))) = some (if okRune x = true ∧ u8s x = ((y9 S).drop p).take m then (x, (m : Int)) else (65533, 1)) := by
  rw [p_specRune]
  simp only [Option.bind_some]
  cases hg : okRune x with
  | false => simp
  | true =>
    have hx2 : x ≤ 1114111 := by
      simp only [okRune, Bool.and_eq_true, decide_eq_true_eq] at hg
      omega
    simp only [Bool.not_true, Bool.false_eq_true, if_false]
    rw [show (p : Int) + (m : Int) = ((p + m : Nat) : Int) by omega]
    obtain ⟨T, t1, t2⟩ := cutS_at S (a := p) (b := p + m) (by omega) hm
    rw [t1]
    simp only [Option.bind_some]
    rw [p_l1Utf8 x hx0 hx2]
    simp only [Option.bind_some]
    rw [strB, t2, bytes_text _ (u8s_in hx0 hx2)]
    have e : List.drop p (List.take (p + m) (y9 S)) = ((y9 S).drop p).take m := by
      rw [List.drop_take]
      congr 1
      omega
    rw [e]
    by_cases h : u8s x = ((y9 S).drop p).take m
    · simp [h]
    · simp [h]
theorem l1At_step (S : ByteArray) (p m : Nat) (hS : S.size ≤ 4000000000) (j : Nat) (hj : j < m) (hm4 : m ≤ 4) (hpm : p + m ≤ S.size) (b : Int) (hb : ((y9 S).drop p)[j]? = some b) (x : Int) (hx0 : 0 ≤ x) (hx1 : x ≤ 40000) (k : Nat) : zi.l1 S p m (k + 1) x j = zi.l1 S p m k (x * 64 + b % 64) ((j + 1 : Nat) : Int) := by
  have hbr := bytes_rng S b (List.mem_of_mem_drop (List.mem_of_getElem? hb))
  rw [zi.l1, if_pos (by rw [decide_eq_true_eq]; omega), y08 (n := (p : Int) + j) (by omega) (by omega), show (p : Int) + (j : Int) = ((p + j : Nat) : Int) by omega, rdS_at]
  rw [List.getElem?_drop] at hb
  rw [hb]
  simp only [Option.bind_some]
  rw [y08 (n := b) (by omega) (by omega), rem_pos (by omega) (by omega)]
  simp only [Option.bind_some]
  rw [y08 (n := x * 64) (by omega) (by omega), y08 (n := x * 64 + b % 64) (by omega) (by omega), wrapN j (by omega)]
theorem l1At_end (S : ByteArray) (p m : Nat) (x : Int) (k : Nat) : zi.l1 S p m (k + 1) x m = some x := by
  rw [zi.l1, if_neg (by simp)]
theorem p_l1At (S : ByteArray) (p : Nat) (hp : p < S.size) (hS : S.size ≤ 4000000000) : zi.f S p = some (dec ((y9 S).drop p)) := by
  unfold zi.f
  have hL := size_bytes S
  have hr := bytes_rng S
  have hpl : p < (y9 S).length := by omega
  have ha := List.drop_eq_getElem_cons hpl
  generalize hav : (y9 S)[p] = a at ha
  have har : 0 ≤ a ∧ a < 256 := by rw [← hav]; exact hr _ (List.getElem_mem hpl)
  have h0 : rdS? S (p : Int) = some a := by rw [rdS_at, List.getElem?_eq_getElem hpl, hav]
  simp only [h0, Option.bind_some, p_l1Long]
  generalize hM : (y9 S).drop (p + 1) = R at ha
  have hlen : R.length = S.size - (p + 1) := by rw [← hM, List.length_drop, ← hL]
  have hRr : ∀ u ∈ R, 0 ≤ u ∧ u < 256 := fun u hu => hr u (List.mem_of_mem_drop (by rw [hM]; exact hu))
  rw [y08 (n := (p : Int) + l1L a) (by unfold l1L; repeat' split <;> omega) (by unfold l1L; repeat' split <;> omega)]
  by_cases c1 : a < 128
  · -- one byte
    have e1 : l1L a = 1 := by unfold l1L; rw [if_pos c1]
    rw [e1, ha]
    have d1 : decide ((p : Int) + 1 > (S.size : Int)) = false := by rw [decide_eq_false_iff_not]; omega
    have e2 : dec (a :: R) = (a, 1) := by unfold dec; simp [c1]
    rw [e2]
    have g := p_specRune a
    have hg : okRune a = true := by simp only [okRune, Bool.and_eq_true, decide_eq_true_eq, Bool.not_eq_true', Bool.and_eq_false_iff, decide_eq_false_iff_not]; omega
    obtain ⟨T, t1, t2⟩ := cutS_at S (a := p) (b := p + 1) (by omega) (by omega)
    rw [show ((p + 1 : Nat) : Int) = (p : Int) + 1 by omega] at t1
    have t3 : y9 T = [a] := by
      rw [t2, List.drop_take, ha]
      simp
    have u1 : u8s a = [a] := by unfold u8s; rw [if_pos c1]
    simp [d1, zi.l1, g, hg, t1, p_l1Utf8 a (by omega) (by omega), strB, t3, u1, bytes_text [a] (by simp; omega), y08 (n := a) (by omega) (by omega)]
  by_cases c0 : l1L a = 0
  · rw [c0, ha]
    have e2 : dec (a :: R) = (65533, 1) := by
      have : u8n a = 1 := by unfold l1L at c0; unfold u8n; repeat' split at c0 <;> first | omega | (repeat' split <;> omega)
      unfold dec
      simp [c1, this]
    rw [e2]
    simp
  -- more bytes
  obtain ⟨m, hm⟩ : ∃ m : Nat, l1L a = m := ⟨(l1L a).toNat, by unfold l1L at *; repeat' split <;> omega⟩
  have hm2 : 2 ≤ m ∧ m ≤ 4 := by unfold l1L at *; repeat' split at hm <;> omega
  have hne : ((l1L a) == 0) = false := by simpa using c0
  simp only [hne, Bool.false_eq_true, if_false, Option.bind_some]
  rw [hm]
  by_cases hpm : p + m ≤ S.size
  case neg =>
    have d1 : decide ((p : Int) + m > (S.size : Int)) = true := by rw [decide_eq_true_eq]; omega
    simp only [d1, if_true]
    rw [ha]
    congr 1
    symm
    unfold dec
    have hl1 : R.length < m - 1 := by omega
    have g0 : (a :: R).getD 0 0 = a := rfl
    have g1 : (a :: R).getD 1 0 = R.getD 0 0 := rfl
    have g2 : (a :: R).getD 2 0 = R.getD 1 0 := rfl
    have g3 : (a :: R).getD 3 0 = R.getD 2 0 := rfl
    simp only [g0, g1, g2, g3, c1, if_false]
    have z : ∀ i, R.length ≤ i → R.getD i 0 = 0 := fun i hi => by simp [List.getD, List.getElem?_eq_none hi]
    have s0 : ∀ b, b = 0 → ¬ sndOk a b := fun b hb h => by unfold sndOk u8lo at h; repeat' split at h <;> omega
    have s1 : ∀ b, b = 0 → ¬ cont b := fun b hb h => by unfold cont at h; omega
    have hl1L : l1L a = m := hm
    rcases (show m = 2 ∨ m = 3 ∨ m = 4 by omega) with rfl | rfl | rfl
    · have := s0 _ (z 0 (by omega))
      simp only [this, and_false, false_and, if_false]
    · have := s1 _ (z 1 (by omega))
      have h2 : u8n a ≠ 2 := by unfold l1L at hl1L; unfold u8n; repeat' split at hl1L <;> first | omega | (repeat' split <;> omega)
      simp only [this, h2, and_false, false_and, if_false]
    · have := s1 _ (z 2 (by omega))
      have h2 : u8n a ≠ 2 ∧ u8n a ≠ 3 := by unfold l1L at hl1L; unfold u8n; repeat' split at hl1L <;> first | omega | (repeat' split <;> omega)
      simp only [this, h2.1, h2.2, and_false, false_and, if_false]
  have d1 : decide ((p : Int) + m > (S.size : Int)) = false := by rw [decide_eq_false_iff_not]; omega
  have d2 : decide ((m : Int) > 1) = true := by rw [decide_eq_true_eq]; omega
  simp only [d1, d2, Bool.false_eq_true, if_false, if_true]
  rw [y08 (n := a) (by omega) (by omega)]
  have hsh : ∃ q, shlK? .i64 1 (IntKind.u64.wrap (IntKind.i64.wrap (7 - (m : Int)))) = some q ∧ q = 2 ^ (7 - m) := by
    rcases (show m = 2 ∨ m = 3 ∨ m = 4 by omega) with rfl | rfl | rfl 
    · exact ⟨32, by decide +kernel, by decide⟩
    · exact ⟨16, by decide +kernel, by decide⟩
    · exact ⟨8, by decide +kernel, by decide⟩
  obtain ⟨q, q1, q2⟩ := hsh
  rw [q1]
  simp only [Option.bind_some]
  have hq : 1 ≤ q := by rcases (show m = 2 ∨ m = 3 ∨ m = 4 by omega) with rfl | rfl | rfl <;> rw [q2] <;> decide
  rw [rem_pos (by omega) hq]
  simp only [Option.bind_some]
  have hMl : (a :: R).length = S.size - p := by simp; omega
  rcases (show m = 2 ∨ m = 3 ∨ m = 4 by omega) with rfl | rfl | rfl
  · have q3 : q = 32 := by rw [q2]; decide
    subst q3
    match hR : R, hlen with
    | [], hl => simp at hl; omega
    | b :: R', hl =>
      have hb := hRr b (by simp)
      have la : 192 ≤ a ∧ a < 224 := by unfold l1L at hm; repeat' split at hm <;> omega
      have st := l1At_step S p 2 hS 1 (by omega) (by omega) hpm b (by rw [ha]; rfl) (a % 32) (by omega) (by omega) 2
      rw [show (((2 : Nat) : Int) - 1).toNat + 2 = 3 from rfl]
      rw [show ((1 : Nat) : Int) = 1 from rfl] at st
      rw [st]
      rw [show ((1 + 1 : Nat) : Int) = ((2 : Nat) : Int) from rfl, l1At_end]
      simp only [Option.bind_some]
      have fin := l1At_fin S p 2 (a % 32 * 64 + b % 64) hpm (by omega) (by omega) (by omega) hS
      rw [fin, ha]
      congr 1
      have hu : (okRune (a % 32 * 64 + b % 64) = true ∧ u8s (a % 32 * 64 + b % 64) = [a, b]) ↔ (194 ≤ a ∧ cont b) := by
        unfold cont okRune u8s
        simp only [Bool.and_eq_true, decide_eq_true_eq, Bool.not_eq_true', Bool.and_eq_false_iff, decide_eq_false_iff_not]
        constructor
        · rintro ⟨_, h⟩
          split at h
          · simp at h
          · split at h
            · simp only [List.cons.injEq, and_true] at h; omega
            · split at h <;> simp at h
        · rintro ⟨h1, h2⟩
          refine ⟨by omega, ?_⟩
          rw [if_neg (by omega), if_pos (by omega)]
          simp only [List.cons.injEq, and_true]
          omega
      have e3 : List.take 2 (a :: b :: R') = [a, b] := rfl
      rw [e3]
      unfold dec
      have g0 : (a :: b :: R').getD 0 0 = a := rfl
      have g1 : (a :: b :: R').getD 1 0 = b := rfl
      simp only [g0, g1, c1, if_false]
      have hs : (u8n a = 2 ∧ sndOk a b) ↔ (194 ≤ a ∧ cont b) := by
        have : u8lo a = 128 ∧ u8hi a = 191 := by unfold u8lo u8hi; constructor <;> repeat' split <;> omega
        unfold sndOk cont
        rw [this.1, this.2]
        unfold u8n
        constructor
        · rintro ⟨h, h2⟩
          repeat' split at h <;> first | omega | exact ⟨by omega, h2⟩
        · rintro ⟨h, h2⟩
          rw [if_pos (by omega)]
          exact ⟨rfl, h2⟩
      by_cases h : 194 ≤ a ∧ cont b
      · rw [if_pos (hu.2 h), if_pos (hs.2 h)]
        unfold cont at h
        congr 1
        omega
      · rw [if_neg (fun h' => h (hu.1 h')), if_neg (fun h' => h (hs.1 h'))]
        have n3 : u8n a ≠ 3 ∧ u8n a ≠ 4 := by unfold u8n; repeat' split <;> omega
        simp [n3]
  · have q3 : q = 16 := by rw [q2]; decide
    subst q3
    match hR : R, hlen with
    | [], hl => simp at hl; omega
    | [b], hl => simp at hl; omega
    | b :: c :: R', hl =>
      have hb := hRr b (by simp)
      have hc := hRr c (by simp)
      have la : 224 ≤ a ∧ a < 240 := by unfold l1L at hm; repeat' split at hm <;> omega
      have st := l1At_step S p 3 hS 1 (by omega) (by omega) hpm b (by rw [ha]; rfl) (a % 16) (by omega) (by omega) 3
      have st2 := l1At_step S p 3 hS 2 (by omega) (by omega) hpm c (by rw [ha]; rfl) (a % 16 * 64 + b % 64) (by omega) (by omega) 2
      rw [show (((3 : Nat) : Int) - 1).toNat + 2 = 4 from rfl]
      rw [show ((1 : Nat) : Int) = 1 from rfl] at st
      rw [st, show ((1 + 1 : Nat) : Int) = ((2 : Nat) : Int) from rfl, st2, show ((2 + 1 : Nat) : Int) = ((3 : Nat) : Int) from rfl, l1At_end]
      simp only [Option.bind_some]
      have fin := l1At_fin S p 3 ((a % 16 * 64 + b % 64) * 64 + c % 64) hpm (by omega) (by omega) (by omega) hS
      rw [fin, ha]
      congr 1
      have hu : (okRune ((a % 16 * 64 + b % 64) * 64 + c % 64) = true ∧ u8s ((a % 16 * 64 + b % 64) * 64 + c % 64) = [a, b, c]) ↔ (sndOk a b ∧ cont c) := by
        unfold sndOk u8lo u8hi cont okRune u8s
        simp only [Bool.and_eq_true, decide_eq_true_eq, Bool.not_eq_true', Bool.and_eq_false_iff, decide_eq_false_iff_not]
        constructor
        · rintro ⟨_, h⟩
          split at h
          · simp at h
          · split at h
            · simp at h
            · split at h
              · simp only [List.cons.injEq, and_true] at h; repeat' split <;> omega
              · simp at h
        · rintro ⟨h1, h2⟩
          have h3 : (a = 224 → 160 ≤ b) ∧ (a = 237 → b ≤ 159) ∧ 128 ≤ b ∧ b ≤ 191 := by
            repeat' split at h1 <;> omega
          refine ⟨by omega, ?_⟩
          rw [if_neg (by omega), if_neg (by omega), if_pos (by omega)]
          simp only [List.cons.injEq, and_true]
          omega
      have e3 : List.take 3 (a :: b :: c :: R') = [a, b, c] := rfl
      rw [e3]
      unfold dec
      have g0 : (a :: b :: c :: R').getD 0 0 = a := rfl
      have g1 : (a :: b :: c :: R').getD 1 0 = b := rfl
      have g2 : (a :: b :: c :: R').getD 2 0 = c := rfl
      have n3 : u8n a = 3 := by unfold u8n; rw [if_neg (by omega), if_pos (by omega)]
      simp only [g0, g1, g2, c1, if_false, n3]
      by_cases h : sndOk a b ∧ cont c
      · rw [if_pos (hu.2 h)]
        have h2 := h
        unfold sndOk u8lo u8hi cont at h2
        simp only [h.1, h.2, and_true, true_and, if_true, show ¬ ((3 : Int) = 2) by decide, false_and, if_false]
        congr 1
        have h3 : 128 ≤ b ∧ b ≤ 191 := by obtain ⟨h1, _⟩ := h2; repeat' split at h1 <;> omega
        omega
      · rw [if_neg (fun h' => h (hu.1 h'))]
        simp [h]
  · have q3 : q = 8 := by rw [q2]; decide
    subst q3
    match hR : R, hlen with
    | [], hl => simp at hl; omega
    | [b], hl => simp at hl; omega
    | [b, c], hl => simp at hl; omega
    | b :: c :: d :: R', hl =>
      have hb := hRr b (by simp)
      have hc := hRr c (by simp)
      have hd := hRr d (by simp)
      have la : 240 ≤ a ∧ a < 248 := by unfold l1L at hm; repeat' split at hm <;> omega
      have st := l1At_step S p 4 hS 1 (by omega) (by omega) hpm b (by rw [ha]; rfl) (a % 8) (by omega) (by omega) 4
      have st2 := l1At_step S p 4 hS 2 (by omega) (by omega) hpm c (by rw [ha]; rfl) (a % 8 * 64 + b % 64) (by omega) (by omega) 3
      have st3 := l1At_step S p 4 hS 3 (by omega) (by omega) hpm d (by rw [ha]; rfl) ((a % 8 * 64 + b % 64) * 64 + c % 64) (by omega) (by omega) 2
      rw [show (((4 : Nat) : Int) - 1).toNat + 2 = 5 from rfl]
      rw [show ((1 : Nat) : Int) = 1 from rfl] at st
      rw [st, show ((1 + 1 : Nat) : Int) = ((2 : Nat) : Int) from rfl, st2, show ((2 + 1 : Nat) : Int) = ((3 : Nat) : Int) from rfl, st3, show ((3 + 1 : Nat) : Int) = ((4 : Nat) : Int) from rfl, l1At_end]
      simp only [Option.bind_some]
      have fin := l1At_fin S p 4 (((a % 8 * 64 + b % 64) * 64 + c % 64) * 64 + d % 64) hpm (by omega) (by omega) (by omega) hS
      rw [fin, ha]
      congr 1
      have hu : (okRune (((a % 8 * 64 + b % 64) * 64 + c % 64) * 64 + d % 64) = true ∧ u8s (((a % 8 * 64 + b % 64) * 64 + c % 64) * 64 + d % 64) = [a, b, c, d]) ↔ (a ≤ 244 ∧ sndOk a b ∧ cont c ∧ cont d) := by
        unfold sndOk u8lo u8hi cont okRune u8s
        simp only [Bool.and_eq_true, decide_eq_true_eq, Bool.not_eq_true', Bool.and_eq_false_iff, decide_eq_false_iff_not]
        constructor
        · rintro ⟨_, h⟩
          split at h
          · simp at h
          · split at h
            · simp at h
            · split at h
              · simp at h
              · simp only [List.cons.injEq, and_true] at h; repeat' split <;> omega
        · rintro ⟨h0, h1, h2, h4⟩
          have h3 : (a = 240 → 144 ≤ b) ∧ (a = 244 → b ≤ 143) ∧ 128 ≤ b ∧ b ≤ 191 := by
            repeat' split at h1 <;> omega
          refine ⟨by omega, ?_⟩
          rw [if_neg (by omega), if_neg (by omega), if_neg (by omega)]
          simp only [List.cons.injEq, and_true]
          omega
      have e3 : List.take 4 (a :: b :: c :: d :: R') = [a, b, c, d] := rfl
      rw [e3]
      unfold dec
      have g0 : (a :: b :: c :: d :: R').getD 0 0 = a := rfl
      have g1 : (a :: b :: c :: d :: R').getD 1 0 = b := rfl
      have g2 : (a :: b :: c :: d :: R').getD 2 0 = c := rfl
      have g3 : (a :: b :: c :: d :: R').getD 3 0 = d := rfl
      have n3 : (u8n a = 4 ↔ a ≤ 244) ∧ u8n a ≠ 2 ∧ u8n a ≠ 3 := by unfold u8n; rw [if_neg (by omega), if_neg (by omega)]; split <;> omega
      simp only [g0, g1, g2, g3, c1, if_false, n3.1, n3.2.1, n3.2.2, false_and]
      by_cases h : a ≤ 244 ∧ sndOk a b ∧ cont c ∧ cont d
      · rw [if_pos (hu.2 h), if_pos h]
        have h2 := h
        unfold sndOk u8lo u8hi cont at h2
        congr 1
        have h3 : 128 ≤ b ∧ b ≤ 191 := by obtain ⟨_, h1, _⟩ := h2; repeat' split at h1 <;> omega
        omega
      · rw [if_neg (fun h' => h (hu.1 h')), if_neg h]
theorem p_full (S : ByteArray) (hne : y9 S ≠ []) : z0o.f S = some (!begB (y9 S)) := by
  unfold z0o.f
  have hr := bytes_rng S
  have h0 := rdS_at S 0
  have h1 := rdS_at S 1
  have h2 := rdS_at S 2
  rw [show ((0 : Nat) : Int) = 0 from rfl] at h0
  rw [show ((1 : Nat) : Int) = 1 from rfl] at h1
  rw [show ((2 : Nat) : Int) = 2 from rfl] at h2
  have hs := size_bytes S
  generalize y9 S = L at *
  rw [h0, hs, h1, h2]
  cases L with
  | nil => exact absurd rfl hne
  | cons a r =>
    obtain ⟨v, v1, v2, v3⟩ := tab_of (hr a (by simp)).1 (hr a (by simp)).2
    rw [if_neg (by simp; omega)]
    simp only [List.getElem?_cons_zero, Option.bind_some, v1, v2]
    have hu := u8n_le a
    by_cases hn : ((a :: r).length : Int) ≥ u8n a
    · rw [if_pos (by simpa using hn)]
      have e : begB (a :: r) = false := by
        match r, hn with
        | [], hn => simp [begB] at hn ⊢; omega
        | [b], hn => simp [begB] at hn ⊢; omega
        | [b, c], hn => simp [begB] at hn ⊢; omega
        | b :: c :: d :: t, _ => rfl
      rw [e]
      rfl
    · rw [if_neg (by simpa using hn)]
      obtain ⟨k, k1, k2⟩ := v3 (by simp at hn; omega)
      rw [k1]
      simp only [Option.bind_some, k2]
      match r, hn with
      | [], hn =>
        have : (2 : Int) ≤ u8n a := by simp at hn; omega
        simp [begB, this]
      | [b], hn =>
        have h3 : (3 : Int) ≤ u8n a := by simp at hn; omega
        simp only [List.length_cons, List.length_nil, List.getElem?_cons_succ, List.getElem?_cons_zero, Option.bind_some]
        by_cases g1 : b < u8lo a
        · have : ¬ sndOk a b := fun h => by unfold sndOk at h; omega
          simp [begB, g1, this]
        · by_cases g2 : u8hi a < b
          · have : ¬ sndOk a b := fun h => by unfold sndOk at h; omega
            simp [begB, g1, g2, this]
          · have : sndOk a b := ⟨by omega, by omega⟩
            simp [begB, g1, g2, this, h3]
      | [b, c], hn =>
        have h3 : (4 : Int) ≤ u8n a := by simp at hn; omega
        simp only [List.length_cons, List.length_nil, List.getElem?_cons_succ, List.getElem?_cons_zero, Option.bind_some]
        by_cases g1 : b < u8lo a
        · have : ¬ sndOk a b := fun h => by unfold sndOk at h; omega
          simp [begB, g1, this]
        · by_cases g2 : u8hi a < b
          · have : ¬ sndOk a b := fun h => by unfold sndOk at h; omega
            simp [begB, g1, g2, this]
          · have hs2 : sndOk a b := ⟨by omega, by omega⟩
            by_cases g3 : c < 128
            · have : ¬ cont c := fun h => by unfold cont at h; omega
              simp [begB, g1, g2, g3, this]
            · by_cases g4 : 191 < c
              · have : ¬ cont c := fun h => by unfold cont at h; omega
                simp [begB, g1, g2, g3, g4, this]
              · have : cont c := ⟨by omega, by omega⟩
                simp [begB, g1, g2, g3, g4, this, hs2, h3]
      | b :: c :: d :: t, hn => simp at hn; omega
theorem p_begun (S : ByteArray) : z0p.f S = some (begB (y9 S)) := by
  unfold z0p.f
  rw [strB, bytes_nil]
  by_cases h : y9 S = []
  · simp [h, begB]
  · rw [p_full S h]
    simp [h]
theorem dec_snd (M : List Int) : 1 < (dec M).2 ↔ 128 ≤ M.getD 0 0 ∧ ((u8n (M.getD 0 0) = 2 ∧ sndOk (M.getD 0 0) (M.getD 1 0)) ∨ (u8n (M.getD 0 0) = 3 ∧ sndOk (M.getD 0 0) (M.getD 1 0) ∧ cont (M.getD 2 0)) ∨ (u8n (M.getD 0 0) = 4 ∧ sndOk (M.getD 0 0) (M.getD 1 0) ∧ cont (M.getD 2 0) ∧ cont (M.getD 3 0))) := by
  unfold dec
  generalize M.getD 0 0 = a
  generalize M.getD 1 0 = b
  generalize M.getD 2 0 = c
  generalize M.getD 3 0 = d
  dsimp only
  by_cases h0 : a < 128
  · rw [if_pos h0]
    constructor
    · intro h; simp at h
    · intro h; omega
  rw [if_neg h0]
  by_cases h1 : u8n a = 2 ∧ sndOk a b
  · rw [if_pos h1]
    exact ⟨fun _ => ⟨by omega, .inl h1⟩, fun _ => by simp⟩
  rw [if_neg h1]
  by_cases h2 : u8n a = 3 ∧ sndOk a b ∧ cont c
  · rw [if_pos h2]
    exact ⟨fun _ => ⟨by omega, .inr (.inl h2)⟩, fun _ => by simp⟩
  rw [if_neg h2]
  by_cases h3 : u8n a = 4 ∧ sndOk a b ∧ cont c ∧ cont d
  · rw [if_pos h3]
    exact ⟨fun _ => ⟨by omega, .inr (.inr h3)⟩, fun _ => by simp⟩
  rw [if_neg h3]
  constructor
  · intro h; simp at h
  · rintro ⟨_, h | h | h⟩
    · exact absurd h h1
    · exact absurd h h2
    · exact absurd h h3
theorem p_fill (S : ByteArray) (a : Int) (r : List Int) (hS : y9 S = a :: r) (m f : Nat) (hm : l1L a = m) (hm4 : m ≤ 4) (hf : 128 ≤ f) (hf2 : f < 192) : ∀ (k j : Nat) (X : ByteArray), y9 X = (a :: r) ++ List.replicate j (f : Int) → (a :: r).length + j ≤ m → m - ((a :: r).length + j) < k → ∃ T, zj.l2 S (f : Int) k X = some T ∧ y9 T = (a :: r) ++ List.replicate (m - (a :: r).length) (f : Int) := by
  intro k
  induction k with
  | zero => intro j X _ _ h; omega
  | succ k ih =>
    intro j X hX hj hk
    have hx := size_bytes X
    rw [hX, List.length_append, List.length_replicate] at hx
    rw [zj.l2]
    have h0 := rdS_at S 0
    rw [hS] at h0
    rw [show ((0 : Nat) : Int) = 0 from rfl] at h0
    rw [h0]
    simp only [List.getElem?_cons_zero, Option.bind_some, p_l1Long, hm]
    by_cases hlt : X.size < m
    · rw [if_pos (by rw [decide_eq_true_eq]; omega), w8 (by omega) (by omega)]
      have hb1 : y9 (textB [(f : Int)]) = [(f : Int)] := bytes_text _ (by simp; omega)
      have hz : (textB [(f : Int)]).size = 1 := by rw [size_bytes, hb1]; rfl
      obtain ⟨c, c1, c2⟩ := cat_at (n := 1000000000000) (a := X) (b := textB [(f : Int)]) (by omega)
      rw [c1]
      simp only [Option.bind_some]
      refine ih (j + 1) c ?_ (by omega) (by omega)
      rw [c2, hX, hb1, List.append_assoc, List.replicate_succ']
    · rw [if_neg (by rw [decide_eq_true_eq]; omega)]
      refine ⟨X, rfl, ?_⟩
      rw [hX]
      congr 2
      omega
theorem p_begLoop (S : ByteArray) (a : Int) (r : List Int) (hS : y9 S = a :: r) (m : Nat) (hm : l1L a = m) (hm4 : m ≤ 4) (hn : (a :: r).length ≤ m) : ∀ (k f : Nat), 128 ≤ f → f ≤ 192 → 192 - f < k → ∃ o, zj.l1 S k (f : Int) = some o ∧ ((o = .ret true ∧ ∃ g : Nat, f ≤ g ∧ g < 192 ∧ 1 < (dec ((a :: r) ++ List.replicate (m - (a :: r).length) (g : Int))).2) ∨ (o = .go () ∧ ∀ g : Nat, f ≤ g → g < 192 → ¬ 1 < (dec ((a :: r) ++ List.replicate (m - (a :: r).length) (g : Int))).2)) := by
  intro k
  induction k with
  | zero => intro f _ _ h; omega
  | succ k ih =>
    intro f hf hf2 hk
    rw [zj.l1]
    by_cases hlt : f < 192
    · rw [if_pos (by rw [decide_eq_true_eq]; omega)]
      obtain ⟨T, t1, t2⟩ := p_fill S a r hS m f hm hm4 hf hlt 8 0 S (by rw [hS]; simp) (by omega) (by omega)
      rw [t1]
      simp only [Option.bind_some]
      have hT := size_bytes T
      rw [t2, List.length_append, List.length_replicate] at hT
      have hl1 : (a :: r).length = r.length + 1 := rfl
      have e := p_l1At T 0 (by omega) (by omega)
      rw [show ((0 : Nat) : Int) = 0 from rfl, t2, List.drop_zero] at e
      rw [e]
      simp only [Option.bind_some]
      by_cases hV : 1 < (dec ((a :: r) ++ List.replicate (m - (a :: r).length) (f : Int))).2
      · rw [if_pos (by rw [decide_eq_true_eq]; exact hV)]
        exact ⟨_, rfl, .inl ⟨rfl, f, Nat.le_refl _, hlt, hV⟩⟩
      · rw [if_neg (by rw [decide_eq_true_eq]; exact hV)]
        simp only [Option.bind_some]
        rw [wrapN f (by omega)]
        obtain ⟨o, o1, o2⟩ := ih (f + 1) (by omega) (by omega) (by omega)
        refine ⟨o, o1, ?_⟩
        rcases o2 with ⟨p1, g, p2, p3, p4⟩ | ⟨p1, p2⟩
        · exact .inl ⟨p1, g, by omega, p3, p4⟩
        · refine .inr ⟨p1, fun g h1 h2 => ?_⟩
          by_cases hg : g = f
          · rw [hg]; exact hV
          · exact p2 g (by omega) h2
    · rw [if_neg (by rw [decide_eq_true_eq]; omega)]
      exact ⟨_, rfl, .inr ⟨rfl, fun g h1 h2 => by omega⟩⟩
theorem lo_ok (a : Int) : sndOk a (u8lo a) ∧ cont (u8lo a) := by
  unfold sndOk cont u8lo u8hi
  repeat' split <;> omega
theorem u8n_L (a : Int) : (2 ≤ u8n a → l1L a = u8n a ∧ 128 ≤ a) ∧ (u8n a < 2 → True) := by
  refine ⟨fun h => ?_, fun _ => trivial⟩
  unfold u8n l1L at *
  repeat' split at h <;> first | omega | (repeat' split <;> omega)
theorem p_specBegun (S : ByteArray) : zj.f S = some (begB (y9 S)) := by
  unfold zj.f
  have hs := size_bytes S
  have h0 := rdS_at S 0
  rw [show ((0 : Nat) : Int) = 0 from rfl] at h0
  have hr := bytes_rng S
  cases hL : y9 S with
  | nil =>
    rw [hL] at hs
    have : (S.size : Int) = 0 := by rw [hs]; rfl
    simp [this, begB]
  | cons a r =>
    rw [hL] at hs h0 hr
    have n0 : ((S.size : Int) == 0) = false := by rw [beq_eq_false_iff_ne, hs]; simp; omega
    by_cases h3 : S.size > 3
    · have d3 : decide ((S.size : Int) > 3) = true := by rw [decide_eq_true_eq]; omega
      have e : begB (a :: r) = false := by
        match r, hs with
        | [], hs => simp at hs; omega
        | [_], hs => simp at hs; omega
        | [_, _], hs => simp at hs; omega
        | _ :: _ :: _ :: _, _ => rfl
      simp [n0, d3, e]
    have d3 : decide ((S.size : Int) > 3) = false := by rw [decide_eq_false_iff_not]; omega
    rw [h0]
    simp only [n0, d3, Bool.false_eq_true, if_false, List.getElem?_cons_zero, Option.bind_some, p_l1Long]
    have un := u8n_L a
    by_cases hle : l1L a ≤ (S.size : Int)
    · have e : begB (a :: r) = false := by
        match r, hs with
        | [], hs =>
          simp only [begB, decide_eq_false_iff_not]
          intro h
          have := (un.1 h).1
          simp at hs
          omega
        | [b], hs =>
          simp only [begB, Bool.and_eq_false_iff, decide_eq_false_iff_not]
          left
          intro h
          have := (un.1 (by omega)).1
          simp at hs
          omega
        | [b, c], hs =>
          simp only [begB, Bool.and_eq_false_iff, decide_eq_false_iff_not]
          left
          intro h
          have := (un.1 (by omega)).1
          simp at hs
          omega
        | _ :: _ :: _ :: _, _ => rfl
      simp [hle, e]
    simp only [hle, decide_false, Bool.false_eq_true, if_false]
    obtain ⟨m, hm⟩ : ∃ m : Nat, l1L a = m := ⟨(l1L a).toNat, by unfold l1L; repeat' split <;> omega⟩
    have hm4 : m ≤ 4 := by unfold l1L at hm; repeat' split at hm <;> omega
    have hlen : (a :: r).length = r.length + 1 := rfl
    obtain ⟨o, o1, o2⟩ := p_begLoop S a r hL m hm hm4 (by omega) (((192 : Int) - (128)).toNat + 2) 128 (by omega) (by omega) (by decide)
    rw [show ((128 : Nat) : Int) = 128 from rfl] at o1
    rw [o1]
    simp only [Option.bind_some]
    have key : (∃ g : Nat, 128 ≤ g ∧ g < 192 ∧ 1 < (dec ((a :: r) ++ List.replicate (m - (a :: r).length) (g : Int))).2) ↔ begB (a :: r) = true := by
      have lo := lo_ok a
      have lob : 128 ≤ u8lo a ∧ u8lo a < 192 := by unfold u8lo; repeat' split <;> omega
      obtain ⟨g0, hg0⟩ := Int.eq_ofNat_of_zero_le (show 0 ≤ u8lo a by omega)
      have hcg : ∀ g : Nat, 128 ≤ g → g < 192 → cont (g : Int) := fun g h1 h2 => by unfold cont; omega
      match r, hs, hm with
      | [], hs, hm =>
        simp only [List.length_cons, List.length_nil] at hs
        simp only [begB, decide_eq_true_eq]
        constructor
        · rintro ⟨g, g1, g2, g3⟩
          rw [dec_snd] at g3
          have e0 : ([a] ++ List.replicate (m - 1) (g : Int)).getD 0 0 = a := rfl
          simp only [List.length_cons, List.length_nil, Nat.zero_add] at g3
          rw [e0] at g3
          omega
        · intro h
          have hu := un.1 h
          refine ⟨g0, by omega, by omega, ?_⟩
          rw [dec_snd]
          simp only [List.length_cons, List.length_nil, Nat.zero_add]
          have e0 : ([a] ++ List.replicate (m - 1) (g0 : Int)).getD 0 0 = a := rfl
          rw [e0]
          refine ⟨hu.2, ?_⟩
          rw [hg0] at lo
          have hu4 := u8n_le a
          rcases (show m = 2 ∨ m = 3 ∨ m = 4 by omega) with rfl | rfl | rfl
          · exact .inl ⟨by omega, lo.1⟩
          · exact .inr (.inl ⟨by omega, lo.1, lo.2⟩)
          · exact .inr (.inr ⟨by omega, lo.1, lo.2, lo.2⟩)
      | [b], hs, hm =>
        simp only [List.length_cons, List.length_nil] at hs
        simp only [begB, Bool.and_eq_true, decide_eq_true_eq]
        constructor
        · rintro ⟨g, g1, g2, g3⟩
          rw [dec_snd] at g3
          simp only [List.length_cons, List.length_nil, Nat.zero_add] at g3
          have e0 : ([a, b] ++ List.replicate (m - 2) (g : Int)).getD 0 0 = a := rfl
          have e1 : ([a, b] ++ List.replicate (m - 2) (g : Int)).getD 1 0 = b := rfl
          rw [show m - (1 + 1) = m - 2 from rfl, e0, e1] at g3
          obtain ⟨k0, k | k | k⟩ := g3
          · have := (un.1 (by omega)).1; omega
          · exact ⟨by omega, k.2.1⟩
          · exact ⟨by omega, k.2.1⟩
        · rintro ⟨h, h2⟩
          have hu := un.1 (by omega)
          refine ⟨128, by omega, by omega, ?_⟩
          rw [dec_snd]
          simp only [List.length_cons, List.length_nil, Nat.zero_add]
          have e0 : ([a, b] ++ List.replicate (m - 2) ((128 : Nat) : Int)).getD 0 0 = a := rfl
          have e1 : ([a, b] ++ List.replicate (m - 2) ((128 : Nat) : Int)).getD 1 0 = b := rfl
          rw [show m - (1 + 1) = m - 2 from rfl, e0, e1]
          refine ⟨hu.2, ?_⟩
          have hu4 := u8n_le a
          have c128 := hcg 128 (by omega) (by omega)
          rcases (show m = 3 ∨ m = 4 by omega) with rfl | rfl
          · exact .inr (.inl ⟨by omega, h2, c128⟩)
          · exact .inr (.inr ⟨by omega, h2, c128, c128⟩)
      | [b, c], hs, hm =>
        simp only [List.length_cons, List.length_nil] at hs
        simp only [begB, Bool.and_eq_true, decide_eq_true_eq]
        constructor
        · rintro ⟨g, g1, g2, g3⟩
          rw [dec_snd] at g3
          simp only [List.length_cons, List.length_nil, Nat.zero_add] at g3
          have e0 : ([a, b, c] ++ List.replicate (m - 3) (g : Int)).getD 0 0 = a := rfl
          have e1 : ([a, b, c] ++ List.replicate (m - 3) (g : Int)).getD 1 0 = b := rfl
          have e2 : ([a, b, c] ++ List.replicate (m - 3) (g : Int)).getD 2 0 = c := rfl
          rw [show m - (1 + 1 + 1) = m - 3 from rfl, e0, e1, e2] at g3
          obtain ⟨k0, k | k | k⟩ := g3
          · have := (un.1 (by omega)).1; omega
          · have := (un.1 (by omega)).1; omega
          · exact ⟨by omega, k.2.1, k.2.2.1⟩
        · rintro ⟨h, h2, h4⟩
          have hu := un.1 (by omega)
          refine ⟨128, by omega, by omega, ?_⟩
          rw [dec_snd]
          simp only [List.length_cons, List.length_nil, Nat.zero_add]
          have e0 : ([a, b, c] ++ List.replicate (m - 3) ((128 : Nat) : Int)).getD 0 0 = a := rfl
          have e1 : ([a, b, c] ++ List.replicate (m - 3) ((128 : Nat) : Int)).getD 1 0 = b := rfl
          have e2 : ([a, b, c] ++ List.replicate (m - 3) ((128 : Nat) : Int)).getD 2 0 = c := rfl
          rw [show m - (1 + 1 + 1) = m - 3 from rfl, e0, e1, e2]
          refine ⟨hu.2, ?_⟩
          have hu4 := u8n_le a
          have c128 := hcg 128 (by omega) (by omega)
          obtain rfl : m = 4 := by omega
          exact .inr (.inr ⟨by omega, h2, h4, c128⟩)
      | _ :: _ :: _ :: _, hs, _ => simp at hs; omega
    rcases o2 with ⟨rfl, p2⟩ | ⟨rfl, p2⟩
    · rw [key.1 p2]
    · have : begB (a :: r) = false := by
        cases hb : begB (a :: r) with
        | false => rfl
        | true =>
          obtain ⟨g, g1, g2, g3⟩ := key.2 hb
          exact absurd g3 (p2 g g1 g2)
      rw [this]
theorem p_l1All (p : List Int) (a b : Int) (hp : p.length ≤ big) : zp.f p a b = some (p.all fun u => decide (a ≤ u) && decide (u ≤ b)) := by
  unfold zp.f
  have := all_loop p hp (fun u => !(decide (a ≤ u) && decide (u ≤ b))) false (zp.l1 p a b) (fun k i => by rw [zp.l1]; simp only [p_l1In, Option.bind_some]) (((p.length : Int) - 0).toNat + 2) 0 (by omega) (by omega)
  rw [show ((0 : Nat) : Int) = 0 from rfl] at this
  rw [this, List.drop_zero]
  have e : p.any (fun u => !(decide (a ≤ u) && decide (u ≤ b))) = !p.all fun u => decide (a ≤ u) && decide (u ≤ b) := by rw [List.all_eq_not_any_not]; simp
  rw [e]
  cases h : p.all fun u => decide (a ≤ u) && decide (u ≤ b) <;> simp
theorem mul_le160 {w h : Int} (h1 : 1 ≤ w) (h2 : w ≤ 20) (h3 : 1 ≤ h) (h4 : h ≤ 8) : 1 ≤ w * h ∧ w * h ≤ 160 := by
  have a := Int.mul_le_mul h2 h4 (by omega) (by omega)
  have b := Int.mul_le_mul h1 h3 (by omega) (by omega)
  omega
theorem p_or (u v : Nat) (hu : u < 256) (hv : v < 256) : bits .or .i64 ((u : Int) * 256) (v : Int) = (u : Int) * 256 + v := by
  unfold bits
  have e1 : BitVec.ofInt IntKind.i64.bits ((u : Int) * 256) = BitVec.ofNat 64 (256 * u) := by
    show BitVec.ofInt 64 _ = _
    rw [show (u : Int) * 256 = ((256 * u : Nat) : Int) by omega]
    exact BitVec.ofInt_natCast 64 _
  have e2 : BitVec.ofInt IntKind.i64.bits (v : Int) = BitVec.ofNat 64 v := BitVec.ofInt_natCast 64 _
  rw [e1, e2]
  dsimp only
  have e3 : (BitVec.ofNat 64 (256 * u) ||| BitVec.ofNat 64 v).toNat = 256 * u + v := by
    rw [BitVec.toNat_or, BitVec.toNat_ofNat, BitVec.toNat_ofNat, Nat.mod_eq_of_lt (by omega), Nat.mod_eq_of_lt (by omega)]
    exact (Nat.two_pow_add_eq_or_of_lt (i := 8) hv u).symm
  have e4 : (((BitVec.ofNat 64 (256 * u) ||| BitVec.ofNat 64 v).toNat : Nat) : Int) = ((256 * u + v : Nat) : Int) := by rw [e3]
  have key : IntKind.i64.wrap (((BitVec.ofNat 64 (256 * u) ||| BitVec.ofNat 64 v).toNat : Nat) : Int) = (u : Int) * 256 + v := by
    rw [e4, y08 (by omega) (by omega)]
    omega
  exact key
def unitB (en : Int) (L : List Int) : Int := if en = 2 then L.getD 0 0 * 256 + L.getD 1 0 else L.getD 1 0 * 256 + L.getD 0 0
theorem sh8a : min (8 : Int).toNat IntKind.i64.bits = 8 := by decide
theorem sh8b : (2 : Int) ^ 8 = 256 := by decide
theorem sh8c (u : Nat) : shlK? .i64 (u : Int) 8 = some (IntKind.i64.wrap ((u : Int) * 2 ^ (min (8 : Int).toNat IntKind.i64.bits))) := by
  unfold shlK?
  exact if_pos (by omega)
theorem p_shl8 (u : Nat) (hu : u < 256) : shlK? .i64 (u : Int) 8 = some ((u : Int) * 256) := by
  rw [sh8c u, sh8a, sh8b, y08 (by omega) (by omega)]
theorem bindE {α β : Type} {x : Option α} {f : α → Option β} {a : α} {b : Option β} (h : x = some a) (h2 : f a = b) : x.bind f = b := by subst h; exact h2
theorem unitGen (en a b A B ra rb : Int) (S : ByteArray) (h0 : rdS? S 0 = some a) (h1 : rdS? S 1 = some b) (sa : shlK? .i64 (IntKind.i64.wrap a) 8 = some A) (sb : shlK? .i64 (IntKind.i64.wrap b) 8 = some B) (oa : bits .or .i64 A (IntKind.i64.wrap b) = ra) (ob : bits .or .i64 B (IntKind.i64.wrap a) = rb) : z0r.f en S = some (if en = 2 then ra else rb) := by
  unfold z0r.f
  by_cases he : en = 2
  · rw [if_pos he]
    exact (if_pos (show (en == 2) = true by simpa using he)).trans (bindE h0 (bindE sa (bindE h1 (congrArg some oa))))
  · rw [if_neg he]
    exact (if_neg (show ¬ (en == 2) = true by simpa using he)).trans (bindE h1 (bindE sb (bindE h0 (congrArg some ob))))
theorem p_implUnit (en : Int) (S : ByteArray) (h2 : 2 ≤ S.size) : z0r.f en S = some (unitB en (y9 S)) := by
  have hs := size_bytes S
  have hr := bytes_rng S
  have h0 := rdS_at S 0
  have h1 := rdS_at S 1
  rw [show ((0 : Nat) : Int) = 0 from rfl] at h0
  rw [show ((1 : Nat) : Int) = 1 from rfl] at h1
  cases hL : y9 S with
  | nil => rw [hL] at hs; simp only [List.length_nil] at hs; omega
  | cons a t =>
    cases t with
    | nil => rw [hL] at hs; simp only [List.length_cons, List.length_nil] at hs; omega
    | cons b r =>
      rw [hL] at h0 h1 hr
      have ha := hr a (List.mem_cons_self)
      have hb := hr b (List.mem_cons_of_mem _ List.mem_cons_self)
      have wa : IntKind.i64.wrap a = ((a.toNat : Nat) : Int) := by rw [y08 (by omega) (by omega)]; omega
      have wb : IntKind.i64.wrap b = ((b.toNat : Nat) : Int) := by rw [y08 (by omega) (by omega)]; omega
      have ea : ((a.toNat : Nat) : Int) = a := by omega
      have eb : ((b.toNat : Nat) : Int) = b := by omega
      have sa := p_shl8 a.toNat (by omega)
      have sb := p_shl8 b.toNat (by omega)
      have oa := p_or a.toNat b.toNat (by omega) (by omega)
      have ob := p_or b.toNat a.toNat (by omega) (by omega)
      rw [ea] at sa ob oa
      rw [eb] at sb oa ob
      rw [ea] at wa
      rw [eb] at wb
      refine (unitGen en a b (a * 256) (b * 256) (a * 256 + b) (b * 256 + a) S h0 h1 (by rw [wa]; exact sa) (by rw [wb]; exact sb) (by rw [wb]; exact oa) (by rw [wa]; exact ob)).trans ?_
      rfl
theorem p_specUnit (en : Int) (S : ByteArray) (h2 : 2 ≤ S.size) : zl.f en S = some (unitB en (y9 S)) := by
  unfold zl.f unitB
  have hs := size_bytes S
  have hr := bytes_rng S
  have h0 := rdS_at S 0
  have h1 := rdS_at S 1
  rw [show ((0 : Nat) : Int) = 0 from rfl] at h0
  rw [show ((1 : Nat) : Int) = 1 from rfl] at h1
  rw [h0, h1]
  generalize y9 S = L at *
  match L, hs with
  | [], hs => simp only [List.length_cons, List.length_nil] at hs; omega
  | [_], hs => simp only [List.length_cons, List.length_nil] at hs; omega
  | a :: b :: r, hs =>
    have hx := hr a (by simp)
    have hy := hr b (by simp)
    by_cases he : en = 2
    · simp [he, y08 (n := a) (by omega) (by omega), y08 (n := b) (by omega) (by omega), y08 (n := a * 256) (by omega) (by omega), y08 (n := a * 256 + b) (by omega) (by omega)]
    · simp [he, y08 (n := a) (by omega) (by omega), y08 (n := b) (by omega) (by omega), y08 (n := b * 256) (by omega) (by omega), y08 (n := b * 256 + a) (by omega) (by omega)]
/-- A good decoder. -/
def okDec (en sh lo : Int) (L : List Int) : Bool := (decide (1 ≤ en) && decide (en ≤ 5)) && (decide (0 ≤ sh) && decide (sh ≤ 1)) && (decide (0 ≤ lo) && decide (lo ≤ 1000)) && !(decide (en ≠ 5) && decide (0 < sh + lo)) &&
  (if L = [] then true else if en = 1 then begB L else if en = 2 ∨ en = 3 then decide (L.length ≤ 3) && (decide (L.length = 1) || (decide (55296 ≤ unitB en L) && decide (unitB en L ≤ 56319))) else false)
theorem p_implDec (en sh lo : Int) (S : ByteArray) : z0t.f en sh lo S = some (okDec en sh lo (y9 S)) := by
  unfold z0t.f z0n.f z0q.f z0s.f okDec
  have hs := size_bytes S
  simp only [p_inRange, Option.bind_some, strB, bytes_nil, p_begun]
  by_cases h1 : 1 ≤ en ∧ en ≤ 5
  · by_cases h2 : 0 ≤ sh ∧ sh ≤ 1
    · by_cases h3 : 0 ≤ lo ∧ lo ≤ 1000
      · rw [y08 (n := sh + lo) (by omega) (by omega)]
        by_cases h4 : en ≠ 5 ∧ 0 < sh + lo
        · simp [h1, h2, h3, h4]
        · have e4 : (decide (en ≠ 5) && decide (0 < sh + lo)) = false := by
            rw [Bool.and_eq_false_iff, decide_eq_false_iff_not, decide_eq_false_iff_not]
            by_cases a : en = 5
            · left; simpa using a
            · right; intro b; exact h4 ⟨a, b⟩
          have e5 : (if (en != 5) = true then (some (decide (sh + lo > 0))) else (some false)) = some false := by
            by_cases a : en = 5
            · simp [a]
            · have : ¬ 0 < sh + lo := fun b => h4 ⟨a, b⟩
              simp [a]; omega
          simp only [h1, h2, h3, decide_true, Bool.and_self, Bool.not_true, Bool.false_eq_true, if_false, e5, Option.bind_some, e4, Bool.not_false, Bool.true_and]
          by_cases hL : y9 S = []
          · simp [hL]
          · simp only [hL, decide_false, Bool.false_eq_true, if_false]
            by_cases he : en = 1
            · simp [he]
            · have he' : (en == 1) = false := by simpa using he
              simp only [he', he, Bool.false_eq_true, if_false]
              by_cases h23 : en = 2 ∨ en = 3
              · have hu : (if (en == 2) = true then (some true) else (some (en == 3))) = some true := by rcases h23 with h | h <;> simp [h]
                simp only [hu, Option.bind_some, if_true, h23]
                by_cases hl3 : S.size ≤ 3
                · have d1 : decide ((S.size : Int) ≤ 3) = true := by rw [decide_eq_true_eq]; omega
                  have d2 : decide ((y9 S).length ≤ 3) = true := by rw [decide_eq_true_eq]; omega
                  simp only [d1, d2, if_true, Bool.true_and]
                  by_cases hl1 : S.size = 1
                  · have d3 : ((S.size : Int) == 1) = true := by rw [beq_iff_eq]; omega
                    have d4 : decide ((y9 S).length = 1) = true := by rw [decide_eq_true_eq]; omega
                    simp [d3, d4]
                  · have d3 : ((S.size : Int) == 1) = false := by rw [beq_eq_false_iff_ne]; omega
                    have d4 : decide ((y9 S).length = 1) = false := by rw [decide_eq_false_iff_not]; omega
                    have hne : (y9 S).length ≠ 0 := fun h => hL (List.eq_nil_of_length_eq_zero h)
                    simp only [d3, d4, Bool.false_eq_true, if_false, Bool.false_or]
                    rw [p_implUnit en S (by omega)]
                    simp
                · have d1 : decide ((S.size : Int) ≤ 3) = false := by rw [decide_eq_false_iff_not]; omega
                  have d2 : decide ((y9 S).length ≤ 3) = false := by rw [decide_eq_false_iff_not]; omega
                  simp [d1, d2]
              · have hu : (if (en == 2) = true then (some true) else (some (en == 3))) = some false := by
                  have a : en ≠ 2 := fun h => h23 (.inl h)
                  have b : en ≠ 3 := fun h => h23 (.inr h)
                  simp [a, b]
                simp only [hu, Option.bind_some, Bool.false_eq_true, if_false, h23]
      · have : (decide (0 ≤ lo) && decide (lo ≤ 1000)) = false := by simpa using h3
        simp [h1, h2, this]
    · have : (decide (0 ≤ sh) && decide (sh ≤ 1)) = false := by simpa using h2
      simp [h1, this]
  · have : (decide (1 ≤ en) && decide (en ≤ 5)) = false := by simpa using h1
    simp [this]
theorem p_specDec (en sh lo : Int) (S : ByteArray) : zn.f en sh lo S = some (okDec en sh lo (y9 S)) := by
  unfold zn.f ze.f zk.f zm.f okDec
  have hs := size_bytes S
  simp only [p_l1In, Option.bind_some, strB, bytes_nil, p_specBegun]
  by_cases h1 : 1 ≤ en ∧ en ≤ 5
  · by_cases h2 : 0 ≤ sh ∧ sh ≤ 1
    · by_cases h3 : 0 ≤ lo ∧ lo ≤ 1000
      · rw [y08 (n := sh + lo) (by omega) (by omega)]
        by_cases h4 : en ≠ 5 ∧ 0 < sh + lo
        · simp [h1, h2, h3, h4]
        · have e4 : (decide (en ≠ 5) && decide (0 < sh + lo)) = false := by
            rw [Bool.and_eq_false_iff, decide_eq_false_iff_not, decide_eq_false_iff_not]
            by_cases a : en = 5
            · left; simpa using a
            · right; intro b; exact h4 ⟨a, b⟩
          have e5 : (if (en != 5) = true then (some (decide (sh + lo > 0))) else (some false)) = some false := by
            by_cases a : en = 5
            · simp [a]
            · have : ¬ 0 < sh + lo := fun b => h4 ⟨a, b⟩
              simp [a]; omega
          simp only [h1, h2, h3, decide_true, Bool.and_self, Bool.not_true, Bool.false_eq_true, if_false, e5, Option.bind_some, e4, Bool.not_false, Bool.true_and]
          by_cases he : en = 1
          · by_cases hL : y9 S = [] <;> simp [he, hL]
          · have he' : (en == 1) = false := by simpa using he
            simp only [he', he, Bool.false_eq_true, if_false]
            by_cases h23 : en = 2 ∨ en = 3
            · have hu : (if (en == 2) = true then (some true) else (some (en == 3))) = some true := by rcases h23 with h | h <;> simp [h]
              simp only [hu, Option.bind_some, if_true, h23]
              by_cases hL : y9 S = []
              · have d0 : decide ((S.size : Int) < 2) = true := by rw [decide_eq_true_eq, hs, hL]; simp
                simp [d0, hL]
              · have hne : (y9 S).length ≠ 0 := fun h => hL (List.eq_nil_of_length_eq_zero h)
                simp only [hL, if_false]
                by_cases hl1 : S.size = 1
                · have d3 : decide ((S.size : Int) < 2) = true := by rw [decide_eq_true_eq]; omega
                  have d4 : decide ((y9 S).length = 1) = true := by rw [decide_eq_true_eq]; omega
                  have d2 : decide ((y9 S).length ≤ 3) = true := by rw [decide_eq_true_eq]; omega
                  simp [d3, d4, d2]
                · have d3 : decide ((S.size : Int) < 2) = false := by rw [decide_eq_false_iff_not]; omega
                  have d4 : decide ((y9 S).length = 1) = false := by rw [decide_eq_false_iff_not]; omega
                  simp only [d3, d4, Bool.false_eq_true, if_false, Bool.false_or]
                  by_cases hl3 : S.size ≤ 3
                  · have d1 : decide ((S.size : Int) < 4) = true := by rw [decide_eq_true_eq]; omega
                    have d2 : decide ((y9 S).length ≤ 3) = true := by rw [decide_eq_true_eq]; omega
                    simp only [d1, d2, if_true, Bool.true_and]
                    rw [p_specUnit en S (by omega)]
                    simp
                  · have d1 : decide ((S.size : Int) < 4) = false := by rw [decide_eq_false_iff_not]; omega
                    have d2 : decide ((y9 S).length ≤ 3) = false := by rw [decide_eq_false_iff_not]; omega
                    simp [d1, d2]
            · have hu : (if (en == 2) = true then (some true) else (some (en == 3))) = some false := by
                have a : en ≠ 2 := fun h => h23 (.inl h)
                have b : en ≠ 3 := fun h => h23 (.inr h)
                simp [a, b]
              simp only [hu, Option.bind_some, Bool.false_eq_true, if_false, h23]
              by_cases hL : y9 S = [] <;> simp [hL]
      · have : (decide (0 ≤ lo) && decide (lo ≤ 1000)) = false := by simpa using h3
        simp [h1, h2, this]
    · have : (decide (0 ≤ sh) && decide (sh ≤ 1)) = false := by simpa using h2
      simp [h1, this]
  · have : (decide (1 ≤ en) && decide (en ≤ 5)) = false := by simpa using h1
    simp [this]
def okLong (u : Int) : Bool := decide (1 ≤ u) && decide (u ≤ 1000)
theorem p_longs (p : List Int) (hp : p.length ≤ big) : z12.f p = some (!p.all okLong) := by
  unfold z12.f z11.f
  have e1 : ∀ u, z0z.f u = some (!okLong u) := fun u => by
    unfold z0z.f okLong
    simp only [p_inRange, Option.bind_some]
  have := scan_loop p hp (fun u => !okLong u) (fun i _ => i) (z11.l1 p) (fun k i => by rw [z11.l1]; simp only [e1, Option.bind_some]) (((p.length : Int) - 0).toNat + 2) 0 (by omega) (by omega)
  rw [show ((0 : Nat) : Int) = 0 from rfl] at this
  rw [this, List.drop_zero]
  have e : p.all okLong = !(p.any fun u => !okLong u) := List.all_eq_not_any_not
  rw [e, Bool.not_not]
  cases hf : p.findIdx? (fun u => !okLong u) with
  | none =>
    have : p.any (fun u => !okLong u) = false := by
      rw [List.findIdx?_eq_none_iff] at hf
      simpa using hf
    rw [this]; simp
  | some j =>
    obtain ⟨hj, h1, h2⟩ := List.findIdx?_eq_some_iff_getElem.1 hf
    have : p.any (fun u => !okLong u) = true := List.any_eq_true.2 ⟨_, List.getElem_mem hj, h1⟩
    rw [this]
    simp [hj]
def okBuf (m : Int) (rs ls : List Int) (g : Int) : Bool := (decide (1 ≤ m) && decide (m ≤ 60)) && decide ((rs.length : Int) ≤ m) && rs.all okRune && ((ls.length : Int) == (rs.length : Int)) && ls.all okLong && (decide (0 ≤ g) && decide (g ≤ 1000000))
theorem p_implBuf (m : Int) (rs ls : List Int) (g : Int) (hr : rs.length ≤ big) (hl : ls.length ≤ big) : z13.f m rs ls g = some (okBuf m rs ls g) := by
  unfold z13.f okBuf
  simp only [p_inRange, Option.bind_some, p_areRunes rs m hr, p_longs ls hl]
  generalize (decide (1 ≤ m) && decide (m ≤ 60)) = b1
  generalize decide ((rs.length : Int) ≤ m) = b2
  generalize rs.all okRune = b3
  generalize ((ls.length : Int) == (rs.length : Int)) = b4
  generalize ls.all okLong = b5
  generalize (decide (0 ≤ g) && decide (g ≤ 1000000)) = b6
  cases b1 <;> cases b2 <;> cases b3 <;> cases b4 <;> cases b5 <;> cases b6 <;> rfl
theorem p_specBuf (m : Int) (rs ls : List Int) (g : Int) (hr : rs.length ≤ big) (hl : ls.length ≤ big) : zq.f m rs ls g = some (okBuf m rs ls g) := by
  unfold zq.f okBuf
  simp only [p_l1In, Option.bind_some, p_allRunes rs hr, p_l1All ls 1 1000 hl]
  have e : (ls.all fun u => decide (1 ≤ u) && decide (u ≤ 1000)) = ls.all okLong := rfl
  rw [e]
  by_cases h1 : (rs.length : Int) ≤ m ∧ m ≤ 60
  · have h2 : rs.length ≤ 1000 := by omega
    simp only [h1, h2, decide_true, Bool.and_true]
    generalize decide (1 ≤ m) = b1
    generalize rs.all okRune = b3
    generalize ((ls.length : Int) == (rs.length : Int)) = b4
    generalize ls.all okLong = b5
    generalize (decide (0 ≤ g) && decide (g ≤ 1000000)) = b6
    cases b1 <;> cases b3 <;> cases b4 <;> cases b5 <;> cases b6 <;> rfl
  · by_cases h2 : m ≤ 60
    · have h3 : ¬ (rs.length : Int) ≤ m := fun h => h1 ⟨h, h2⟩
      simp only [h2, h3, decide_true, decide_false]
      cases decide (1 ≤ m) <;> simp
    · simp [h2]
theorem p_units (en : Int) : z0q.f en = some (decide (en = 2 ∨ en = 3)) ∧ zk.f en = some (decide (en = 2 ∨ en = 3)) := by
  unfold z0q.f zk.f
  by_cases h : en = 2 <;> by_cases h' : en = 3 <;> simp [h, h']
theorem p_flushL (en long : Int) (hlo : long = if en = 2 ∨ en = 3 then 2 else 1) : ∀ (k : Nat) (S : ByteArray) (rs ls : List Int), S.size < k → rs.length + S.size ≤ 100000 → rs.length = ls.length → rs.all okRune = true → ls.all okLong = true →
    ∃ rs' ls' : List Int, z1w.l1 long k rs ls S = some (rs', ls', (⟨#[]⟩ : ByteArray)) ∧ z0i.l1 en k rs ls S = some (rs', ls') ∧ rs'.length ≤ rs.length + S.size ∧ rs'.length = ls'.length ∧ rs'.all okRune = true ∧ ls'.all okLong = true := by
  intro k
  induction k with
  | zero => intro S _ _ h; omega
  | succ k ih =>
    intro S rs ls hk hb hl hr hlg
    have hs := size_bytes S
    rw [z1w.l1, z0i.l1]
    rw [strB, bytes_nil]
    by_cases hL : y9 S = []
    · have e : S = (⟨#[]⟩ : ByteArray) := bytesB_inj (hL.trans bytes_nil.symm)
      simp only [hL, decide_true, Bool.not_true, Bool.false_eq_true, if_false]
      exact ⟨rs, ls, by rw [← e], rfl, by omega, hl, hr, hlg⟩
    · have hne : (y9 S).length ≠ 0 := fun h => hL (List.eq_nil_of_length_eq_zero h)
      simp only [hL, decide_false, Bool.not_false, if_true]
      obtain ⟨n, hn, hn1, hn2⟩ : ∃ n : Nat, min long (S.size : Int) = n ∧ 1 ≤ n ∧ n ≤ S.size ∧ n ≤ 2 := ⟨(min long (S.size : Int)).toNat, by rw [hlo]; split <;> omega, by rw [hlo]; split <;> omega, by rw [hlo]; split <;> omega⟩
      have hsp : ((((zk.f en).bind fun u196 => if u196 = true then (some (decide ((S.size : Int) > 1))) else (some false)).bind fun (o : Bool) => match o with | x195 => (if x195 = true then (some (2 : Int)) else (some 1)))) = some (n : Int) := by
        rw [(p_units en).2]
        simp only [Option.bind_some]
        by_cases h23 : en = 2 ∨ en = 3
        · rw [if_pos h23] at hlo
          simp only [h23, decide_true, if_true, Option.bind_some]
          by_cases h1 : (S.size : Int) > 1
          · simp only [h1, decide_true, if_true]; congr 1; omega
          · simp only [h1, decide_false, Bool.false_eq_true, if_false]; congr 1; omega
        · rw [if_neg h23] at hlo
          simp only [h23, decide_false, Bool.false_eq_true, if_false, Option.bind_some]
          congr 1; omega
      rw [hsp, hn]
      simp only [Option.bind_some]
      have a1 : app? 17592186044416 rs [65533] = some (rs ++ [65533]) := app?_at (by simp; omega)
      have a2 : app? 17592186044416 ls [(n : Int)] = some (ls ++ [(n : Int)]) := app?_at (by simp; omega)
      obtain ⟨T, t1, t2⟩ := cutS_at S (a := n) (b := S.size) hn2.1 (Nat.le_refl _)
      rw [a1, a2, t1]
      simp only [Option.bind_some]
      have hT : T.size = S.size - n := by
        rw [size_bytes T, t2, List.length_drop, List.length_take]
        omega
      obtain ⟨rs', ls', i1, i2, i3, i4, i5, i6⟩ := ih T (rs ++ [65533]) (ls ++ [(n : Int)]) (by omega) (by simp; omega) (by simp; omega) (by rw [List.all_append, hr]; decide) (by
        rw [List.all_append, hlg]
        simp [okLong]
        omega)
      exact ⟨rs', ls', i1, i2, by simp at i3; omega, i4, i5, i6⟩
theorem size_nil : (⟨#[]⟩ : ByteArray).size = 0 := rfl
theorem t_pair (en n : Int) : Tt (z09.f en n) fun S => S.size = 2 := by
  unfold z09.f
  refine Tt.ite (fun _ => ?_) (fun _ => ?_)
  · refine (Tt.quo (by decide)).bind fun _ _ => (Tt.rem (by decide)).bind fun _ _ => .one (by rw [size_text]; rfl)
  · refine (Tt.rem (by decide)).bind fun _ _ => (Tt.quo (by decide)).bind fun _ _ => .one (by rw [size_text]; rfl)
theorem t_units (en : Int) : Tt (zk.f en) fun _ => True := ⟨_, (p_units en).2, trivial⟩
theorem t_l2Put (en sh r : Int) (h : okRune r = true) : Tt (z0a.f en sh r) fun x => x.1.size ≤ 4 := by
  simp only [okRune, Bool.and_eq_true, decide_eq_true_eq] at h
  unfold z0a.f
  refine Tt.ite (fun _ => ?_) (fun _ => ?_)
  · rw [p_l1Utf8 _ h.1.1 h.1.2]
    exact .one (by dsimp only; rw [size_text]; exact u8s_len r)
  refine Tt.bind (Φ := fun _ => True) ?_ fun o _ => ?_
  · refine (t_units en).bind fun _ _ => Tt.ite (fun _ => .one trivial) (fun _ => .one trivial)
  refine Tt.ite (fun _ => ?_) (fun _ => ?_)
  · exact (t_pair _ _).bind fun x hx => .one (by dsimp only; omega)
  refine (t_units en).bind fun _ _ => Tt.ite (fun _ => ?_) (fun _ => ?_)
  · refine (Tt.quo (by decide)).bind fun _ _ => (t_pair _ _).bind fun x hx => (Tt.rem (by decide)).bind fun _ _ => (t_pair _ _).bind fun y hy => ?_
    exact (Tt.cat (by omega)).bind fun z hz => .one (by dsimp only; omega)
  refine Tt.ite (fun _ => .one (by dsimp only; rw [size_text]; simp)) (fun _ => ?_)
  refine Tt.ite (fun _ => Tt.ite (fun _ => .one (by dsimp only; rw [size_text]; simp)) (fun _ => .one (by dsimp only; rw [size_text]; simp))) (fun _ => ?_)
  rw [p_l1In]
  refine (Tt.bind (Φ := fun _ => True) ((Tt.one (Φ := fun _ => True) trivial).bind fun _ _ => Tt.ite (fun _ => .one trivial) (fun _ => .one trivial))) fun o _ => ?_
  obtain ⟨x, y⟩ := o
  dsimp only
  rw [p_l1In]
  refine (Tt.bind (Φ := fun _ => True) ((Tt.one (Φ := fun _ => True) trivial).bind fun _ _ => Tt.ite (fun _ => .one trivial) (fun _ => Tt.ite (fun _ => .one trivial) (fun _ => .one trivial)))) fun o _ => ?_
  refine Tt.ite (fun _ => .one (by decide)) (fun _ => ?_)
  refine Tt.bind (Φ := fun z => z.size ≤ 2) (Tt.ite (fun _ => ?_) (fun _ => .one (by rw [size_text]; simp))) fun z hz => .one (by dsimp only; omega)
  exact (Tt.cat (by simp [size_text])).bind fun z hz => .one (by rw [hz, size_text, size_text]; exact Nat.le_refl 2)
theorem t_Encode (en : Int) (l : List Int) (hl : l.length ≤ 1000) : Tt (z0b.f en l) fun x => x.1.size ≤ 4 * l.length + 1 := by
  unfold z0b.f
  refine Tt.bind (Φ := fun x => x = false → ∀ u ∈ l, okRune u = true) ?_ fun o ho => ?_
  · unfold ze.f
    rw [p_l1In]
    refine (Tt.one (Φ := fun _ => True) trivial).bind fun _ _ => Tt.bind (Φ := fun _ => True) (.one trivial) fun _ _ => ?_
    refine Tt.ite (fun _ => .one (by intro h; cases h)) (fun _ => ?_)
    rw [p_allRunes l (by unfold big; omega)]
    exact (Tt.one (Φ := fun x => x = (l.all okRune && decide (l.length ≤ 1000))) rfl).bind fun x hx => .one (by subst hx; intro h; simp at h; exact h.1)
  refine Tt.ite (fun _ => .one (by rw [size_nil]; omega)) (fun hn => ?_)
  have hok := ho (by simpa using hn)
  have key : ∀ (k i : Nat) (S : ByteArray) (sh : Int), i ≤ l.length → l.length - i < k → S.size ≤ 4 * i → Tt (z0b.l1 en l k S sh i) fun r => match r with | .go x => x.1.size ≤ 4 * l.length | .ret z => z.1.size = 0 := by
    intro k
    induction k with
    | zero => intro i S sh _ h; omega
    | succ k ih =>
      intro i S sh hi hk hS
      rw [z0b.l1]
      refine Tt.ite (fun h => ?_) (fun h => .one (by dsimp only; omega))
      have h : i < l.length := by simpa using h
      rw [rd?_at h]
      refine (Tt.one (Φ := fun u => u = l[i]) rfl).bind fun u hu => ?_
      subst hu
      refine (t_l2Put en sh _ (hok _ (List.getElem_mem h))).bind fun x hx => ?_
      refine Tt.ite (fun _ => ?_) (fun _ => ?_)
      · exact (Tt.one (Φ := fun z => z.1.size = 0) rfl).bind fun z hz => .one hz
      · refine (Tt.cat (by omega)).bind fun c hc => ?_
        rw [wrapN i (by omega)]
        exact ih (i + 1) c x.2.1 h (by omega) (by omega)
  refine (key _ 0 _ 0 (by omega) (by omega) (by decide)).bind fun o ho => ?_
  cases o with
  | ret z => exact .one (by dsimp only at ho ⊢; omega)
  | go x =>
    dsimp only at ho ⊢
    refine Tt.bind (Φ := fun z => z.size ≤ 4 * l.length + 1) (Tt.ite (fun _ => ?_) (fun _ => .one (by omega))) fun z hz => ?_
    · refine (Tt.cat (by rw [size_text]; simp; omega)).bind fun c hc => .one (by rw [hc, size_text]; simp; omega)
    · exact Tt.ite (fun _ => .one (by rw [size_nil]; omega)) (fun _ => .one hz)
theorem t_bytes {code : List Int} (hc : allW (inK .u8) code) {a s : Int} (h0 : 0 ≤ a) (h1 : a ≤ 100000000000) : Tt (z0e.f code a s) fun r => r.1.size ≤ 26 ∧ a ≤ r.2.1 ∧ r.2.1 ≤ a + 50 := by
  unfold z0e.f
  refine (t_runes hc h0 h1 (by decide) (by decide)).bind fun l hl => ?_
  refine (t_textOf (by omega) hl.2.1).bind fun S hS => ?_
  refine Tt.bind (Φ := fun r : ByteArray × Int × Int => r.1.size ≤ 26 ∧ a ≤ r.2.1 ∧ r.2.1 ≤ a + 50) ?_ fun o ho => .one ho
  refine (t_pick hc (by omega) (by omega)).bind fun x hx => ?_
  have key : ∀ (n f : Nat) (S : ByteArray) (a s : Int), n < f → 0 ≤ a → a + 10 * n ≤ 1000000000000 → S.size + n ≤ 26 → Tt (z0e.l1 code f S (n : Int) a s) fun r => r.1.size ≤ 26 ∧ a ≤ r.2.1 ∧ r.2.1 ≤ a + 10 * n := by
    intro n
    induction n with
    | zero =>
      intro f S a s hf ha ha2 hS
      obtain ⟨f, rfl⟩ := Nat.exists_eq_succ_of_ne_zero (show f ≠ 0 by omega)
      rw [z0e.l1, if_neg (by simp)]
      exact .one ⟨by dsimp only; omega, by dsimp only; omega, by dsimp only; omega⟩
    | succ n ih =>
      intro f S a s hf ha ha2 hS
      obtain ⟨f, rfl⟩ := Nat.exists_eq_succ_of_ne_zero (show f ≠ 0 by omega)
      rw [z0e.l1, if_pos (by simp <;> omega)]
      refine (Tt.one (Φ := fun b => b = decide ((S.size : Int) > 0)) rfl).bind fun b hb => ?_
      refine Tt.ite (fun h => ?_) (fun _ => .one ⟨by dsimp only; omega, by dsimp only; omega, by dsimp only; omega⟩)
      have hS0 : 0 < S.size := by rw [h] at hb; simpa using hb
      refine Tt.bind (Φ := fun r : ByteArray × Int × Int => r.1.size ≤ S.size + 1 ∧ a ≤ r.2.1 ∧ r.2.1 ≤ a + 5) ?_ fun o ho => ?_
      · refine (t_pick hc ha (by omega)).bind fun x hx => (t_pick hc (by omega) (by omega)).bind fun y hy => ?_
        have hxs := hx.2.1 (by omega)
        refine Tt.ite (fun _ => ?_) (fun _ => Tt.ite (fun _ => ?_) (fun _ => .one ⟨by dsimp only; omega, by dsimp only; omega, by dsimp only; omega⟩))
        · refine (Tt.cutS (by omega) (by omega) (by omega)).bind fun c1 h1 => ?_
          rw [y08 (by omega) (by omega)]
          refine (Tt.cutS (by omega) (by omega) (by omega)).bind fun c2 h2 => ?_
          exact (Tt.cat (by omega)).bind fun c3 h3 => .one ⟨by dsimp only; omega, by dsimp only; omega, by dsimp only; omega⟩
        · refine (Tt.cutS (by omega) (by omega) (by omega)).bind fun c1 h1 => (Tt.cutS (by omega) (by omega) (by omega)).bind fun c2 h2 => ?_
          refine (t_next hc (by omega) (by omega)).bind fun z hz => ?_
          have e1 : (textB [IntKind.u8.wrap z.1]).size = 1 := size_text _
          exact (Tt.cat (by omega)).bind fun c3 h3 => (Tt.cat (by omega)).bind fun c4 h4 => .one ⟨by dsimp only; omega, by dsimp only; omega, by dsimp only; omega⟩
      · obtain ⟨S', a', s'⟩ := o
        dsimp only at *
        rw [y08 (by omega) (by omega), show ((n + 1 : Nat) : Int) - 1 = (n : Int) by omega]
        exact (ih f S' a' s' (by omega) (by omega) (by omega) (by omega)).mono fun r hr => ⟨hr.1, by omega, by omega⟩
  obtain ⟨n, b1, s1⟩ := x
  dsimp only at *
  obtain ⟨n, rfl⟩ := Int.eq_ofNat_of_zero_le hx.1
  have hn := hx.2.1 (by decide)
  exact (key n _ S b1 s1 (by omega) (by omega) (by omega) (by omega)).mono fun r hr => ⟨hr.1, by omega, by omega⟩
theorem t_coded {code : List Int} (hc : allW (inK .u8) code) {a s en : Int} (h0 : 0 ≤ a) (h1 : a ≤ 10000000000) : Tt (z0g.f code a s en) fun r => r.1.size ≤ 60 ∧ a ≤ r.2.1 ∧ r.2.1 ≤ a + 200 := by
  unfold z0g.f
  refine (t_pick hc h0 (by omega)).bind fun x hx => ?_
  have key : ∀ (n f : Nat) (l : List Int) (a s : Int), n < f → 0 ≤ a → a + 10 * n ≤ 1000000000000 → l.length + n ≤ 100000 → Tt (z0g.l1 code en f l (n : Int) a s) fun r => r.1.length = l.length + n ∧ a ≤ r.2.1 ∧ r.2.1 ≤ a + 10 * n := by
    intro n
    induction n with
    | zero =>
      intro f l a s hf ha ha2 hl
      obtain ⟨f, rfl⟩ := Nat.exists_eq_succ_of_ne_zero (show f ≠ 0 by omega)
      rw [z0g.l1, if_neg (by simp)]
      exact .one ⟨by dsimp only; omega, by dsimp only; omega, by dsimp only; omega⟩
    | succ n ih =>
      intro f l a s hf ha ha2 hl
      obtain ⟨f, rfl⟩ := Nat.exists_eq_succ_of_ne_zero (show f ≠ 0 by omega)
      rw [z0g.l1, if_pos (by simp <;> omega)]
      refine (t_rune hc ha (by omega)).bind fun x hx => ?_
      refine Tt.bind (Φ := fun r : Int × Int × Int => a ≤ r.2.1 ∧ r.2.1 ≤ a + 6) ?_ fun o ho => ?_
      · refine Tt.bind (Φ := fun r : Bool × Int × Int => a ≤ r.2.1 ∧ r.2.1 ≤ a + 4) (Tt.ite (fun _ => ?_) (fun _ => .one ⟨by dsimp only; omega, by dsimp only; omega⟩)) fun o ho => ?_
        · exact (t_one hc (by omega) (by omega)).bind fun y hy => .one ⟨by dsimp only; omega, by dsimp only; omega⟩
        · obtain ⟨b, a', s'⟩ := o
          dsimp only at *
          refine Tt.ite (fun _ => ?_) (fun _ => .one ⟨by dsimp only; omega, by dsimp only; omega⟩)
          exact (t_among hc (by decide) (by omega) (by omega)).bind fun y hy => .one ⟨by dsimp only; omega, by dsimp only; omega⟩
      · obtain ⟨r, a', s'⟩ := o
        dsimp only at *
        refine (Tt.app (by simp; omega)).bind fun y hy => ?_
        subst hy
        rw [y08 (by omega) (by omega), show ((n + 1 : Nat) : Int) - 1 = (n : Int) by omega]
        exact (ih f _ a' s' (by omega) (by omega) (by omega) (by simp; omega)).mono fun r hr => ⟨by rw [hr.1]; simp; omega, by omega, by omega⟩
  obtain ⟨n, b1, s1⟩ := x
  dsimp only at *
  obtain ⟨n, rfl⟩ := Int.eq_ofNat_of_zero_le hx.1
  have hn := hx.2.1 (by decide)
  refine (key n _ [] b1 s1 (by omega) (by omega) (by omega) (by simp; omega)).bind fun o ho => ?_
  obtain ⟨l, a2, s2⟩ := o
  dsimp only at *
  rw [List.length_nil] at ho
  refine (t_Encode en l (by omega)).bind fun e he => ?_
  refine Tt.bind (Φ := fun r : ByteArray × Int × Int => r.1.size ≤ 51 ∧ a ≤ r.2.1 ∧ r.2.1 ≤ a + 120) ?_ fun o ho => ?_
  · refine Tt.bind (Φ := fun r : Bool × Int × Int => a ≤ r.2.1 ∧ r.2.1 ≤ a + 66) (Tt.ite (fun _ => .one ⟨by dsimp only; omega, by dsimp only; omega⟩) (fun _ => ?_)) fun o ho => ?_
    · exact (t_one hc (by omega) (by omega)).bind fun y hy => .one ⟨by dsimp only; omega, by dsimp only; omega⟩
    · obtain ⟨b, a', s'⟩ := o
      dsimp only at *
      refine Tt.ite (fun _ => ?_) (fun _ => .one ⟨by dsimp only; omega, by dsimp only; omega, by dsimp only; omega⟩)
      exact (t_bytes hc (by omega) (by omega)).bind fun y hy => (Tt.cat (by omega)).bind fun z hz => .one ⟨by dsimp only; omega, by dsimp only; omega, by dsimp only; omega⟩
  obtain ⟨S, a3, s3⟩ := o
  dsimp only at *
  refine Tt.bind (Φ := fun r : ByteArray × Int × Int => r.1.size ≤ 51 ∧ a ≤ r.2.1 ∧ r.2.1 ≤ a + 130) ?_ fun o ho => ?_
  · refine Tt.bind (Φ := fun r : Bool × Int × Int => (r.1 = true → 0 < S.size) ∧ a ≤ r.2.1 ∧ r.2.1 ≤ a + 125) (Tt.ite (fun h => ?_) (fun _ => .one ⟨(by intro h; cases h), by dsimp only; omega, by dsimp only; omega⟩)) fun o ho => ?_
    · exact (t_one hc (by omega) (by omega)).bind fun y hy => .one ⟨fun _ => by simpa using h, by dsimp only; omega, by dsimp only; omega⟩
    · obtain ⟨b, a', s'⟩ := o
      dsimp only at *
      refine Tt.ite (fun hb => ?_) (fun _ => .one ⟨by dsimp only; omega, by dsimp only; omega, by dsimp only; omega⟩)
      have hS := ho.1 hb
      refine (t_pick hc (by omega) (by omega)).bind fun x hx => ?_
      have hxs := hx.2.1 (by omega)
      refine (Tt.cutS (by omega) (by omega) (by omega)).bind fun c1 h1 => ?_
      rw [y08 (by omega) (by omega)]
      refine (Tt.cutS (by omega) (by omega) (by omega)).bind fun c2 h2 => ?_
      exact (Tt.cat (by omega)).bind fun c3 h3 => .one ⟨by dsimp only; omega, by dsimp only; omega, by dsimp only; omega⟩
  obtain ⟨S2, a4, s4⟩ := o
  dsimp only at *
  refine Tt.bind (Φ := fun r : ByteArray × Int × Int => r.1.size ≤ 60 ∧ a ≤ r.2.1 ∧ r.2.1 ≤ a + 200) ?_ fun o ho => .one ho
  refine (t_one hc (by omega) (by omega)).bind fun x hx => Tt.ite (fun _ => ?_) (fun _ => .one ⟨by dsimp only; omega, by dsimp only; omega, by dsimp only; omega⟩)
  refine (t_of hc (by decide) (by omega) (by omega)).bind fun y hy => ?_
  have hy1 : y.1.size ≤ 2 := by
    have hm := hy.1
    have : ∀ z ∈ [(⟨#[216, 61]⟩ : ByteArray), (⟨#[61, 216]⟩ : ByteArray), (⟨#[222, 0]⟩ : ByteArray), (⟨#[14]⟩ : ByteArray), (⟨#[15, 97]⟩ : ByteArray), (⟨#[255]⟩ : ByteArray)], z.size ≤ 2 := by decide
    exact this _ hm
  exact (Tt.cat (by omega)).bind fun z hz => .one ⟨by dsimp only; omega, by dsimp only; omega, by dsimp only; omega⟩
theorem w32 {n : Int} (h0 : -2147483648 ≤ n) (h1 : n < 2147483648) : IntKind.i32.wrap n = n := by rw [IntKind.wrap_i32]; omega
theorem or32 (u v i : Nat) (hv : v < 2 ^ i) (hb : 2 ^ i * u + v < 2147483648) : bits .or .i32 ((2 ^ i * u : Nat) : Int) (v : Int) = ((2 ^ i * u + v : Nat) : Int) := by
  unfold bits
  have e1 : BitVec.ofInt IntKind.i32.bits ((2 ^ i * u : Nat) : Int) = BitVec.ofNat 32 (2 ^ i * u) := BitVec.ofInt_natCast 32 _
  have e2 : BitVec.ofInt IntKind.i32.bits (v : Int) = BitVec.ofNat 32 v := BitVec.ofInt_natCast 32 _
  rw [e1, e2]
  dsimp only
  have e3 : (BitVec.ofNat 32 (2 ^ i * u) ||| BitVec.ofNat 32 v).toNat = 2 ^ i * u + v := by
    rw [BitVec.toNat_or, BitVec.toNat_ofNat, BitVec.toNat_ofNat, Nat.mod_eq_of_lt (by omega), Nat.mod_eq_of_lt (by omega)]
    exact (Nat.two_pow_add_eq_or_of_lt (i := i) hv u).symm
  have key : IntKind.i32.wrap (((BitVec.ofNat 32 (2 ^ i * u) ||| BitVec.ofNat 32 v).toNat : Nat) : Int) = ((2 ^ i * u + v : Nat) : Int) := by
    rw [e3, w32 (by omega) (by omega)]
  exact key
theorem or32i {x y z : Int} (i : Nat) (p : Int) (hp : p = ((2 ^ i : Nat) : Int)) (hx : x % p = 0) (hx0 : 0 ≤ x) (hy0 : 0 ≤ y) (hy : y < p) (hb : x + y < 2147483648) (hz : z = x + y) : bits .or .i32 x y = z := by
  subst hz
  obtain ⟨v, rfl⟩ := Int.eq_ofNat_of_zero_le hy0
  have h1 : x = p * (x / p) := by have := Int.emod_add_mul_ediv x p; omega
  have hp0 : 0 < p := by omega
  obtain ⟨u, hu⟩ := Int.eq_ofNat_of_zero_le (Int.ediv_nonneg hx0 (Int.le_of_lt hp0))
  rw [hu, hp] at h1
  have h2 : x = ((2 ^ i * u : Nat) : Int) := by rw [h1, Int.natCast_mul]
  have := or32 u v i (by omega) (by omega)
  rw [h2, this]
  omega
def slowChk (a : Nat) : Bool := match rd? u8First (a : Int) with
  | some v => if v ≥ 240 then decide (a < 128) || (decide (u8n a = 1) && decide (((shlK? .i32 (IntKind.i32.wrap v) 31).bind fun x => (shrK? .i32 x 31).bind fun y => some (bits .or .i32 (bits .andNot .i32 (IntKind.i32.wrap a) y) (bits .and .i32 65533 y))) = some 65533)) else decide (2 ≤ u8n a)
  | none => false
theorem slowAll : ∀ a : Nat, a < 256 → slowChk a = true := by decide +kernel
theorem slow_of {a v : Int} (h0 : 128 ≤ a) (h1 : a < 256) (hv : rd? u8First a = some v) : (v ≥ 240 → u8n a = 1 ∧ ((shlK? .i32 (IntKind.i32.wrap v) 31).bind fun x => (shrK? .i32 x 31).bind fun y => some (bits .or .i32 (bits .andNot .i32 (IntKind.i32.wrap a) y) (bits .and .i32 65533 y))) = some 65533) ∧ (¬ v ≥ 240 → 2 ≤ u8n a) := by
  obtain ⟨n, rfl⟩ := Int.eq_ofNat_of_zero_le (show 0 ≤ a by omega)
  have := slowAll n (by omega)
  unfold slowChk at this
  rw [hv] at this
  dsimp only at this
  by_cases h : v ≥ 240
  · rw [if_pos h] at this
    simp only [Bool.and_eq_true, Bool.or_eq_true, decide_eq_true_eq] at this
    exact ⟨fun _ => this.resolve_left (by omega), fun c => absurd h c⟩
  · rw [if_neg h] at this
    exact ⟨fun c => absurd c h, fun _ => by simpa using this⟩
def mskChk (a : Nat) : Bool :=
  decide (shlK? .i32 (IntKind.i32.wrap (bits .and .u8 a 31)) 6 = some ((a : Int) % 32 * 64)) &&
  (decide (shlK? .i32 (IntKind.i32.wrap (bits .and .u8 a 15)) 12 = some ((a : Int) % 16 * 4096)) &&
  (decide (shlK? .i32 (IntKind.i32.wrap (bits .and .u8 a 7)) 18 = some ((a : Int) % 8 * 262144)) &&
  (decide (shlK? .i32 (IntKind.i32.wrap (bits .and .u8 a 63)) 6 = some ((a : Int) % 64 * 64)) &&
  (decide (shlK? .i32 (IntKind.i32.wrap (bits .and .u8 a 63)) 12 = some ((a : Int) % 64 * 4096)) &&
  decide (IntKind.i32.wrap (bits .and .u8 a 63) = (a : Int) % 64)))))
theorem mskAll : ∀ a : Nat, a < 256 → mskChk a = true := by decide +kernel
theorem msk_of {a : Int} (h0 : 0 ≤ a) (h1 : a < 256) : shlK? .i32 (IntKind.i32.wrap (bits .and .u8 a 31)) 6 = some (a % 32 * 64) ∧ shlK? .i32 (IntKind.i32.wrap (bits .and .u8 a 15)) 12 = some (a % 16 * 4096) ∧ shlK? .i32 (IntKind.i32.wrap (bits .and .u8 a 7)) 18 = some (a % 8 * 262144) ∧ shlK? .i32 (IntKind.i32.wrap (bits .and .u8 a 63)) 6 = some (a % 64 * 64) ∧ shlK? .i32 (IntKind.i32.wrap (bits .and .u8 a 63)) 12 = some (a % 64 * 4096) ∧ IntKind.i32.wrap (bits .and .u8 a 63) = a % 64 := by
  obtain ⟨n, rfl⟩ := Int.eq_ofNat_of_zero_le h0
  have := mskAll n (by omega)
  unfold mskChk at this
  simpa only [Bool.and_eq_true, decide_eq_true_eq] using this
theorem bindTop {x rd : Option Int} {a : Int} (g : Int → Option Int) (z : Int) (h : Int → Int → Int) (hrd : rd = some a) (e : (x.bind fun x => (g x).bind fun y => some (h a y)) = some z) : (x.bind fun x => (g x).bind fun y => rd.bind fun c => some (h c y, (1 : Int))) = some (z, 1) := by
  subst hrd
  cases x with
  | none => cases e
  | some x =>
    rw [Option.bind_some] at e ⊢
    cases hg : g x with
    | none => rw [hg] at e; cases e
    | some y =>
      rw [hg, Option.bind_some] at e
      rw [Option.bind_some, Option.bind_some, Option.some.inj e]
theorem p_slow (S : ByteArray) (a : Int) (r : List Int) (hS : y9 S = a :: r) (h128 : 128 ≤ a) : z18.f S = some (dec (a :: r)) := by
  unfold z18.f
  have hr := bytes_rng S
  have h0 := rdS_at S 0
  have h1 := rdS_at S 1
  have h2 := rdS_at S 2
  have h3 := rdS_at S 3
  rw [show ((0 : Nat) : Int) = 0 from rfl] at h0
  rw [show ((1 : Nat) : Int) = 1 from rfl] at h1
  rw [show ((2 : Nat) : Int) = 2 from rfl] at h2
  rw [show ((3 : Nat) : Int) = 3 from rfl] at h3
  have hs := size_bytes S
  rw [hS] at hs h0 h1 h2 h3 hr
  have ha := hr a List.mem_cons_self
  obtain ⟨v, v1, v2, v3⟩ := tab_of ha.1 ha.2
  have sl := slow_of h128 ha.2 v1
  have hl : (a :: r).length = r.length + 1 := rfl
  refine (if_neg (by rw [decide_eq_true_eq]; omega)).trans (bindE h0 (bindE v1 ?_))
  have g0 : (a :: r).getD 0 0 = a := rfl
  by_cases hv : v ≥ 240
  · obtain ⟨n1, e⟩ := sl.1 hv
    refine (if_pos (by simpa using hv)).trans ?_
    have ed : dec (a :: r) = (65533, 1) := by
      unfold dec
      simp only [g0]
      rw [if_neg (by omega), if_neg (fun h => by omega), if_neg (fun h => by omega), if_neg (fun h => by omega)]
    rw [ed]
    exact bindTop _ _ (fun c y => bits .or .i32 (bits .andNot .i32 (IntKind.i32.wrap c) y) (bits .and .i32 65533 y)) h0 e
  have n2 := sl.2 hv
  obtain ⟨k, k1, k2⟩ := v3 n2
  refine (if_neg (by simpa using hv)).trans (bindE k1 (bindE k2 ?_))
  rw [v2]
  have n4 := u8n_le a
  by_cases hsz : (S.size : Int) < u8n a
  · refine (if_pos (by simpa using hsz)).trans ?_
    congr 1
    symm
    unfold dec
    simp only [g0]
    rw [if_neg (by omega)]
    have z : ∀ i, r.length ≤ i → (a :: r).getD (i + 1) 0 = 0 := fun i hi => by simp [List.getD, List.getElem?_eq_none hi]
    have s0 : ∀ b, b = 0 → ¬ sndOk a b := fun b hb h => by unfold sndOk u8lo at h; repeat' split at h <;> omega
    have s1 : ∀ b, b = 0 → ¬ cont b := fun b hb h => by unfold cont at h; omega
    rw [if_neg (fun h => s0 _ (z 0 (by omega)) h.2), if_neg (fun h => s1 _ (z 1 (by omega)) h.2.2), if_neg (fun h => s1 _ (z 2 (by omega)) h.2.2.2)]
  refine (if_neg (by simpa using hsz)).trans ?_
  match hr' : r, hs, hl with
  | [], hs, hl => simp at hs; omega
  | b :: r, hs, hl =>
  have hb := hr b (by simp)
  have mb := msk_of hb.1 hb.2
  have ma := msk_of ha.1 ha.2
  have g1 : (a :: b :: r).getD 1 0 = b := rfl
  refine bindE h1 ?_
  have e1 : (if (decide (b < u8lo a)) = true then (some true) else (some (decide (u8hi a < b)))) = some (!decide (sndOk a b)) := by
    by_cases c1 : b < u8lo a
    · have : ¬ sndOk a b := fun h => by unfold sndOk at h; omega
      simp [c1, this]
    · by_cases c2 : u8hi a < b
      · have : ¬ sndOk a b := fun h => by unfold sndOk at h; omega
        simp [c1, c2, this]
      · have : sndOk a b := ⟨by omega, by omega⟩
        simp [c1, c2, this]
  refine bindE e1 ?_
  by_cases hso : sndOk a b
  case neg =>
    refine (if_pos (by simpa using hso)).trans ?_
    congr 1
    symm
    unfold dec
    simp only [g0, g1]
    rw [if_neg (by omega), if_neg (fun h => hso h.2), if_neg (fun h => hso h.2.1), if_neg (fun h => hso h.2.1)]
  refine (if_neg (by simpa using hso)).trans ?_
  have hbr : 128 ≤ b ∧ b ≤ 191 := by
    unfold sndOk u8lo u8hi at hso
    repeat' split at hso <;> omega
  by_cases q2 : u8n a = 2
  · have har : 194 ≤ a ∧ a ≤ 223 := by unfold u8n at q2; repeat' split at q2 <;> omega
    refine (if_pos (by rw [decide_eq_true_eq]; omega)).trans (bindE ma.1 ?_)
    have ed : dec (a :: b :: r) = ((a - 192) * 64 + (b - 128), 2) := by
      unfold dec
      simp only [g0, g1]
      rw [if_neg (by omega), if_pos ⟨q2, hso⟩]
    rw [ed]
    have eo := or32i (x := a % 32 * 64) (y := IntKind.i32.wrap (bits .and .u8 b 63)) (z := (a - 192) * 64 + (b - 128)) 6 64 (by decide) (by omega) (by omega) (by rw [mb.2.2.2.2.2]; omega) (by rw [mb.2.2.2.2.2]; omega) (by rw [mb.2.2.2.2.2]; omega) (by rw [mb.2.2.2.2.2]; omega)
    exact congrArg (fun z => some (z, (2 : Int))) eo
  refine (if_neg (by rw [decide_eq_true_eq]; omega)).trans ?_
  match hr2 : r, hs, hl with
  | [], hs, hl => simp at hs; omega
  | c :: r, hs, hl =>
  have hc := hr c (by simp)
  have mc := msk_of hc.1 hc.2
  have g2 : (a :: b :: c :: r).getD 2 0 = c := rfl
  refine bindE h2 ?_
  have eC : ∀ c : Int, (if (decide (c < 128)) = true then (some true) else (some (decide ((191 : Int) < c)))) = some (!decide (cont c)) := by
    intro c
    by_cases c1 : c < 128
    · have : ¬ cont c := fun h => by unfold cont at h; omega
      simp [c1, this]
    · by_cases c2 : 191 < c
      · have : ¬ cont c := fun h => by unfold cont at h; omega
        simp [c1, c2, this]
      · have : cont c := ⟨by omega, by omega⟩
        simp [c1, c2, this]
  refine bindE (eC c) ?_
  by_cases hco : cont c
  case neg =>
    refine (if_pos (by simpa using hco)).trans ?_
    congr 1
    symm
    unfold dec
    simp only [g0, g1, g2]
    rw [if_neg (by omega), if_neg (fun h => q2 h.1), if_neg (fun h => hco h.2.2), if_neg (fun h => hco h.2.2.1)]
  refine (if_neg (by simpa using hco)).trans ?_
  have hcr : 128 ≤ c ∧ c ≤ 191 := hco
  by_cases q3 : u8n a = 3
  · have har : 224 ≤ a ∧ a ≤ 239 := by unfold u8n at q3; repeat' split at q3 <;> omega
    refine (if_pos (by rw [decide_eq_true_eq]; omega)).trans (bindE ma.2.1 (bindE mb.2.2.2.1 ?_))
    have ed : dec (a :: b :: c :: r) = ((a - 224) * 4096 + (b - 128) * 64 + (c - 128), 3) := by
      unfold dec
      simp only [g0, g1, g2]
      rw [if_neg (by omega), if_neg (fun h => q2 h.1), if_pos ⟨q3, hso, hco⟩]
    rw [ed]
    have e1 := or32i (x := a % 16 * 4096) (y := b % 64 * 64) (z := (a - 224) * 4096 + (b - 128) * 64) 12 4096 (by decide) (by omega) (by omega) (by omega) (by omega) (by omega) (by omega)
    have eo := or32i (x := (a - 224) * 4096 + (b - 128) * 64) (y := IntKind.i32.wrap (bits .and .u8 c 63)) (z := (a - 224) * 4096 + (b - 128) * 64 + (c - 128)) 6 64 (by decide) (by omega) (by omega) (by rw [mc.2.2.2.2.2]; omega) (by rw [mc.2.2.2.2.2]; omega) (by rw [mc.2.2.2.2.2]; omega) (by rw [mc.2.2.2.2.2]; omega)
    rw [e1]
    exact congrArg (fun z => some (z, (3 : Int))) eo
  refine (if_neg (by rw [decide_eq_true_eq]; omega)).trans ?_
  match hr3 : r, hs, hl with
  | [], hs, hl => simp at hs; omega
  | d :: r, hs, hl =>
  have hd := hr d (by simp)
  have md := msk_of hd.1 hd.2
  have g3 : (a :: b :: c :: d :: r).getD 3 0 = d := rfl
  refine bindE h3 (bindE (eC d) ?_)
  by_cases hdo : cont d
  case neg =>
    refine (if_pos (by simpa using hdo)).trans ?_
    congr 1
    symm
    unfold dec
    simp only [g0, g1, g2, g3]
    rw [if_neg (by omega), if_neg (fun h => q2 h.1), if_neg (fun h => q3 h.1), if_neg (fun h => hdo h.2.2.2)]
  refine (if_neg (by simpa using hdo)).trans ?_
  have hdr : 128 ≤ d ∧ d ≤ 191 := hdo
  have q4 : u8n a = 4 := by omega
  have har : 240 ≤ a ∧ a ≤ 244 := by unfold u8n at q4; repeat' split at q4 <;> omega
  refine bindE ma.2.2.1 (bindE mb.2.2.2.2.1 (bindE mc.2.2.2.1 ?_))
  have ed : dec (a :: b :: c :: d :: r) = ((a - 240) * 262144 + (b - 128) * 4096 + (c - 128) * 64 + (d - 128), 4) := by
    unfold dec
    simp only [g0, g1, g2, g3]
    rw [if_neg (by omega), if_neg (fun h => q2 h.1), if_neg (fun h => q3 h.1), if_pos ⟨q4, hso, hco, hdo⟩]
  rw [ed]
  have e1 := or32i (x := a % 8 * 262144) (y := b % 64 * 4096) (z := (a - 240) * 262144 + (b - 128) * 4096) 18 262144 (by decide) (by omega) (by omega) (by omega) (by omega) (by omega) (by omega)
  have e2 := or32i (x := (a - 240) * 262144 + (b - 128) * 4096) (y := c % 64 * 64) (z := (a - 240) * 262144 + (b - 128) * 4096 + (c - 128) * 64) 12 4096 (by decide) (by omega) (by omega) (by omega) (by omega) (by omega) (by omega)
  have eo := or32i (x := (a - 240) * 262144 + (b - 128) * 4096 + (c - 128) * 64) (y := IntKind.i32.wrap (bits .and .u8 d 63)) (z := (a - 240) * 262144 + (b - 128) * 4096 + (c - 128) * 64 + (d - 128)) 6 64 (by decide) (by omega) (by omega) (by rw [md.2.2.2.2.2]; omega) (by rw [md.2.2.2.2.2]; omega) (by rw [md.2.2.2.2.2]; omega) (by rw [md.2.2.2.2.2]; omega)
  rw [e1, e2]
  exact congrArg (fun z => some (z, (4 : Int))) eo
theorem p_decRune (S : ByteArray) (a : Int) (r : List Int) (hS : y9 S = a :: r) : z19.f S = some (dec (a :: r)) := by
  unfold z19.f
  have h0 := rdS_at S 0
  rw [show ((0 : Nat) : Int) = 0 from rfl, hS] at h0
  have hr := bytes_rng S a (by rw [hS]; simp)
  have ne : (!(S.toList == (⟨#[]⟩ : ByteArray).toList)) = true := by rw [strB, bytes_nil, hS]; rfl
  rw [if_pos ne, h0]
  by_cases h : a < 128
  · have ed : dec (a :: r) = (a, 1) := by
      unfold dec
      simp only [show (a :: r).getD 0 0 = a from rfl]
      rw [if_pos h]
    rw [ed]
    simp [h, w32 (n := a) (by omega) (by omega)]
  · simp [h, p_slow S a r hS (by omega)]
theorem dec_rng (L : List Int) (hL : ∀ u ∈ L, 0 ≤ u ∧ u < 256) (hne : L ≠ []) : 0 ≤ (dec L).1 ∧ (dec L).1 ≤ 1114111 ∧ 1 ≤ (dec L).2 ∧ (dec L).2 ≤ L.length := by
  cases L with
  | nil => exact absurd rfl hne
  | cons a r =>
    have ha := hL a (by simp)
    have g0 : (a :: r).getD 0 0 = a := rfl
    have z : ∀ i, r.length ≤ i → (a :: r).getD (i + 1) 0 = 0 := fun i hi => by simp [List.getD, List.getElem?_eq_none hi]
    have s0 : ∀ b, b = 0 → ¬ sndOk a b := fun b hb h => by unfold sndOk u8lo at h; repeat' split at h <;> omega
    have s1 : ∀ b, b = 0 → ¬ cont b := fun b hb h => by unfold cont at h; omega
    have sr : ∀ b, sndOk a b → 128 ≤ b ∧ b ≤ 191 ∧ (a = 244 → b ≤ 143) := fun b h => by unfold sndOk u8lo u8hi at h; repeat' split at h <;> omega
    unfold dec
    simp only [g0, List.length_cons]
    by_cases h1 : a < 128
    · rw [if_pos h1]; simp only; omega
    rw [if_neg h1]
    by_cases h2 : u8n a = 2 ∧ sndOk a ((a :: r).getD 1 0)
    · rw [if_pos h2]
      have hl : 1 ≤ r.length := Nat.le_of_not_lt fun c => s0 _ (z 0 (by omega)) h2.2
      have := sr _ h2.2
      have := h2.1
      unfold u8n at this
      simp only
      repeat' split at this <;> omega
    rw [if_neg h2]
    by_cases h3 : u8n a = 3 ∧ sndOk a ((a :: r).getD 1 0) ∧ cont ((a :: r).getD 2 0)
    · rw [if_pos h3]
      have hl : 2 ≤ r.length := Nat.le_of_not_lt fun c => s1 _ (z 1 (by omega)) h3.2.2
      have := sr _ h3.2.1
      have hc := h3.2.2
      unfold cont at hc
      have := h3.1
      unfold u8n at this
      simp only
      repeat' split at this <;> omega
    rw [if_neg h3]
    by_cases h4 : u8n a = 4 ∧ sndOk a ((a :: r).getD 1 0) ∧ cont ((a :: r).getD 2 0) ∧ cont ((a :: r).getD 3 0)
    · rw [if_pos h4]
      have hl : 3 ≤ r.length := Nat.le_of_not_lt fun c => s1 _ (z 2 (by omega)) h4.2.2.2
      have := sr _ h4.2.1
      have hc := h4.2.2.1
      have hd := h4.2.2.2
      unfold cont at hc hd
      have := h4.1
      unfold u8n at this
      simp only
      repeat' split at this <;> omega
    rw [if_neg h4]
    simp only
    omega
/-- The rune at the front of what came, and how many bytes it has: 0 where it has not ended. -/
def one (en : Int) (L : List Int) : Int × Int :=
  if en = 1 then (if begB L then (0, 0) else dec L)
  else if L.length < 2 then (0, 0)
  else if 56320 ≤ unitB en L ∧ unitB en L ≤ 57343 then (65533, 2)
  else if ¬ (55296 ≤ unitB en L ∧ unitB en L ≤ 56319) then (unitB en L, 2)
  else if L.length < 4 then (0, 0)
  else if ¬ (56320 ≤ unitB en (L.drop 2) ∧ unitB en (L.drop 2) ≤ 57343) then (65533, 2)
  else (65536 + (unitB en L - 55296) * 1024 + unitB en (L.drop 2) - 56320, 4)
theorem unit_rng (en : Int) (L : List Int) (hL : ∀ u ∈ L, 0 ≤ u ∧ u < 256) : 0 ≤ unitB en L ∧ unitB en L ≤ 65535 := by
  have g : ∀ i, 0 ≤ L.getD i 0 ∧ L.getD i 0 < 256 := by
    intro i
    by_cases h : i < L.length
    · rw [List.getD_eq_getElem?_getD, List.getElem?_eq_getElem h]
      exact hL _ (List.getElem_mem h)
    · rw [List.getD_eq_getElem?_getD, List.getElem?_eq_none (by omega)]
      simp
  have := g 0
  have := g 1
  unfold unitB
  split <;> omega
theorem p_l2One (en : Int) (S : ByteArray) (hne : y9 S ≠ []) (hS : S.size ≤ 4000000000) : zx.f en S = some (one en (y9 S)) := by
  unfold zx.f one zw.f zm.f
  have hs := size_bytes S
  have hr := bytes_rng S
  by_cases he : en = 1
  · have he' : (en == 1) = true := by simpa using he
    rw [if_pos he', if_pos he]
    rw [p_specBegun]
    have hpos : 0 < S.size := by rw [hs]; exact List.length_pos_iff.2 hne
    have e := p_l1At S 0 hpos hS
    rw [show ((0 : Nat) : Int) = 0 from rfl, List.drop_zero] at e
    cases hb : begB (y9 S) with
    | true => rfl
    | false => simp [e]
  · have he' : ¬ (en == 1) = true := by simpa using he
    rw [if_neg he', if_neg he]
    by_cases h2 : (y9 S).length < 2
    · rw [if_pos (by rw [decide_eq_true_eq]; omega), if_pos h2]
    rw [if_neg (by rw [decide_eq_true_eq]; omega), if_neg h2, p_specUnit en S (by omega)]
    have ur := unit_rng en (y9 S) hr
    simp only [Option.bind_some, p_l1In]
    by_cases c1 : 56320 ≤ unitB en (y9 S) ∧ unitB en (y9 S) ≤ 57343
    · rw [if_pos c1]; simp [c1]
    have d1 : (decide (56320 ≤ unitB en (y9 S)) && decide (unitB en (y9 S) ≤ 57343)) = false := by simpa using c1
    rw [if_neg c1, d1]
    by_cases c2 : 55296 ≤ unitB en (y9 S) ∧ unitB en (y9 S) ≤ 56319
    case neg =>
      have d2 : (decide (55296 ≤ unitB en (y9 S)) && decide (unitB en (y9 S) ≤ 56319)) = false := by simpa using c2
      rw [if_pos c2, d2]; rfl
    have d2 : (decide (55296 ≤ unitB en (y9 S)) && decide (unitB en (y9 S) ≤ 56319)) = true := by simpa using c2
    rw [if_neg (not_not_intro c2), d2]
    simp only [Bool.false_eq_true, if_false, Bool.not_true]
    by_cases h4 : (y9 S).length < 4
    · rw [if_pos (by rw [decide_eq_true_eq]; omega), if_pos h4]
    rw [if_neg (by rw [decide_eq_true_eq]; omega), if_neg h4]
    obtain ⟨T, t1, t2⟩ := cutS_at S (a := 2) (b := S.size) (by omega) (Nat.le_refl _)
    rw [show ((2 : Nat) : Int) = 2 from rfl] at t1
    rw [hs, List.take_length] at t2
    have hT := size_bytes T
    rw [t2, List.length_drop] at hT
    rw [t1]
    simp only [Option.bind_some]
    rw [p_specUnit en T (by omega), t2]
    have ur2 := unit_rng en ((y9 S).drop 2) (fun u hu => hr u (List.mem_of_mem_drop hu))
    simp only [Option.bind_some]
    by_cases c3 : 56320 ≤ unitB en ((y9 S).drop 2) ∧ unitB en ((y9 S).drop 2) ≤ 57343
    case neg =>
      have d3 : (decide (56320 ≤ unitB en ((y9 S).drop 2)) && decide (unitB en ((y9 S).drop 2) ≤ 57343)) = false := by simpa using c3
      rw [if_pos c3, d3]; rfl
    have d3 : (decide (56320 ≤ unitB en ((y9 S).drop 2)) && decide (unitB en ((y9 S).drop 2) ≤ 57343)) = true := by simpa using c3
    rw [if_neg (not_not_intro c3), d3]
    generalize unitB en (y9 S) = n at *
    generalize unitB en ((y9 S).drop 2) = m at *
    simp only [Bool.not_true, Bool.false_eq_true, if_false]
    rw [y08 (n := n - 55296) (by omega) (by omega), y08 (n := (n - 55296) * 1024) (by omega) (by omega), y08 (n := 65536 + (n - 55296) * 1024) (by omega) (by omega), y08 (n := 65536 + (n - 55296) * 1024 + m) (by omega) (by omega), y08 (n := 65536 + (n - 55296) * 1024 + m - 56320) (by omega) (by omega)]
/-- A byte of the shifting code. -/
def shf (sh b : Int) : Int := if b < 32 ∨ (b < 128 ∧ sh = 0) then b else if b ≤ 126 then 12352 + b - 32 else 65533
theorem p_implShf (en sh lo : Int) (d : ByteArray) (m : Int) (rs ls : List Int) (g : Int) (e : Bool) (b : Int) (h0 : 0 ≤ b) (h1 : b < 256) : z1b.f en sh lo d m rs ls g e b = some (shf sh b) := by
  unfold z1b.f shf
  rw [y08 (n := 12352 + b) (by omega) (by omega), y08 (n := 12352 + b - 32) (by omega) (by omega)]
  by_cases a : b < 32
  · simp [a]
  by_cases c : b < 128
  · by_cases k : sh = 0
    · simp [a, c, k]
    · by_cases f : b ≤ 126 <;> simp [a, c, k, f]
  · have f : ¬ b ≤ 126 := by omega
    simp [a, c, f]
theorem p_specShf (sh b : Int) (hs : sh = 0 ∨ sh = 1) (h0 : 0 ≤ b) (h1 : b < 256) : zv.f sh b = some (shf sh b) := by
  unfold zv.f shf
  rw [y08 (n := 12352 + b) (by omega) (by omega), y08 (n := 12352 + b - 32) (by omega) (by omega)]
  by_cases a : b < 32
  · simp [a]
  rcases hs with rfl | rfl
  · by_cases c : b < 128
    · simp [a, c]
    · have f : ¬ b ≤ 126 := by omega
      simp [a, c, f]
  · by_cases c : b < 128
    · by_cases f : b ≤ 126 <;> simp [a, c, f]
    · have f : ¬ b ≤ 126 := by omega
      simp [a, c, f]
theorem p_nextS (en sh lo : Int) (d : ByteArray) (m : Int) (rs ls : List Int) (g : Int) (e : Bool) (S : ByteArray) (a : Int) (r : List Int) (hL : y9 S = a :: r) (hen : 1 ≤ en ∧ en ≤ 5) : z1d.f en sh lo d m rs ls g e S = some (if en = 4 then (a, 1) else if en = 5 then (shf sh a, 1) else one en (a :: r)) := by
  unfold z1d.f z1c.f z0s.f
  have hs := size_bytes S
  have hr := bytes_rng S
  have h0 := rdS_at S 0
  rw [show ((0 : Nat) : Int) = 0 from rfl, hL] at h0
  rw [hL] at hs hr
  have ha := hr a List.mem_cons_self
  by_cases he : en = 1
  · subst he
    rw [if_pos (by rfl), if_neg (by decide), if_neg (by decide), p_begun, hL]
    unfold one z1a.f
    rw [if_pos rfl, p_decRune S a r hL]
    have dr := dec_rng (a :: r) hr (by simp)
    cases hb : begB (a :: r) with
    | true => rfl
    | false => simp [y08 (n := (dec (a :: r)).1) (by omega) (by omega)]
  rw [if_neg (by simpa using he)]
  by_cases he4 : en = 4
  · subst he4
    rw [if_pos (by rfl), if_pos rfl, h0]
    simp [y08 (n := a) (by omega) (by omega)]
  rw [if_neg (by simpa using he4), if_neg he4]
  by_cases he5 : en = 5
  · subst he5
    rw [if_pos (by rfl), if_pos rfl, h0]
    simp [y08 (n := a) (by omega) (by omega), p_implShf 5 sh lo d m rs ls g e a ha.1 ha.2]
  rw [if_neg (by simpa using he5), if_neg he5]
  unfold one
  rw [if_neg he]
  by_cases h2 : (a :: r).length < 2
  · rw [if_pos (by rw [decide_eq_true_eq]; omega), if_pos h2]
  rw [if_neg (by rw [decide_eq_true_eq]; omega), if_neg h2, p_implUnit en S (by omega), hL]
  have ur := unit_rng en (a :: r) hr
  simp only [Option.bind_some, p_inRange]
  by_cases c2 : 55296 ≤ unitB en (a :: r) ∧ unitB en (a :: r) ≤ 56319
  case neg =>
    have d2 : (decide (55296 ≤ unitB en (a :: r)) && decide (unitB en (a :: r) ≤ 56319)) = false := by simpa using c2
    rw [d2]
    by_cases c1 : 56320 ≤ unitB en (a :: r) ∧ unitB en (a :: r) ≤ 57343
    · rw [if_pos c1]; simp [c1]
    have d1 : (decide (56320 ≤ unitB en (a :: r)) && decide (unitB en (a :: r) ≤ 57343)) = false := by simpa using c1
    rw [if_neg c1, if_pos c2, d1]; rfl
  have c1 : ¬ (56320 ≤ unitB en (a :: r) ∧ unitB en (a :: r) ≤ 57343) := by omega
  have d2 : (decide (55296 ≤ unitB en (a :: r)) && decide (unitB en (a :: r) ≤ 56319)) = true := by simpa using c2
  rw [if_neg c1, if_neg (not_not_intro c2), d2]
  by_cases h4 : (a :: r).length < 4
  · have d4 : decide ((S.size : Int) < 4) = true := by rw [decide_eq_true_eq]; omega
    rw [if_pos h4, d4]; rfl
  have d4 : decide ((S.size : Int) < 4) = false := by rw [decide_eq_false_iff_not]; omega
  rw [if_neg h4, d4]
  obtain ⟨T, t1, t2⟩ := cutS_at S (a := 2) (b := S.size) (by omega) (Nat.le_refl _)
  rw [show ((2 : Nat) : Int) = 2 from rfl] at t1
  rw [hL, hs, List.take_length] at t2
  have hT := size_bytes T
  rw [t2, List.length_drop] at hT
  have u2 := p_implUnit en T (by omega)
  rw [t2] at u2
  rw [hs] at t1
  have ur2 := unit_rng en ((a :: r).drop 2) (fun u hu => hr u (List.mem_of_mem_drop hu))
  generalize unitB en ((a :: r).drop 2) = lw at *
  generalize unitB en (a :: r) = n at *
  have hk : shlK? .i64 (IntKind.i64.wrap (n - 55296)) 10 = some ((n - 55296) * 1024) := by
    rw [y08 (n := n - 55296) (by omega) (by omega)]
    unfold shlK?
    rw [if_pos (by decide), show min (10 : Int).toNat IntKind.i64.bits = 10 from by decide, show (2 : Int) ^ 10 = 1024 from by decide, y08 (by omega) (by omega)]
  rw [hs]
  refine bindE (a := false) rfl ?_
  refine (if_neg Bool.false_ne_true).trans ((if_pos rfl).trans (bindE t1 (bindE u2 ?_)))
  by_cases c3 : 56320 ≤ lw ∧ lw ≤ 57343
  case neg =>
    have d3 : (decide (56320 ≤ lw) && decide (lw ≤ 57343)) = false := by simpa using c3
    rw [if_pos c3, d3]; rfl
  have d3 : (decide (56320 ≤ lw) && decide (lw ≤ 57343)) = true := by simpa using c3
  rw [if_neg (not_not_intro c3), d3]
  refine bindE rfl (bindE hk ?_)
  rw [y08 (n := 65536 + (n - 55296) * 1024) (by omega) (by omega), y08 (n := 65536 + (n - 55296) * 1024 + lw) (by omega) (by omega), y08 (n := 65536 + (n - 55296) * 1024 + lw - 56320) (by omega) (by omega)]
theorem one_rng (en : Int) (L : List Int) (hL : ∀ u ∈ L, 0 ≤ u ∧ u < 256) (hne : L ≠ []) : 0 ≤ (one en L).2 ∧ (one en L).2 ≤ 4 ∧ (one en L).2 ≤ L.length := by
  have dr := dec_rng L hL hne
  have d4 : (dec L).2 ≤ 4 := by
    unfold dec
    dsimp only
    (repeat' split) <;> simp
  unfold one
  split
  · split
    · simp
    · exact ⟨by omega, d4, dr.2.2.2⟩
  · split
    · simp
    · split
      · simp; omega
      · split
        · simp; omega
        · split
          · simp
          · split <;> simp <;> omega
theorem dec_ok (L : List Int) (hL : ∀ u ∈ L, 0 ≤ u ∧ u < 256) (hne : L ≠ []) : okRune (dec L).1 = true := by
  have key : 0 ≤ (dec L).1 ∧ (dec L).1 ≤ 1114111 ∧ ¬ (55296 ≤ (dec L).1 ∧ (dec L).1 ≤ 57343) := by
    have dr := dec_rng L hL hne
    refine ⟨dr.1, dr.2.1, ?_⟩
    cases L with
    | nil => exact absurd rfl hne
    | cons a r =>
      have g0 : (a :: r).getD 0 0 = a := rfl
      have sr : ∀ b, sndOk a b → 128 ≤ b ∧ b ≤ 191 ∧ (a = 237 → b ≤ 159) ∧ (a = 240 → 144 ≤ b) := fun b h => by unfold sndOk u8lo u8hi at h; repeat' split at h <;> omega
      unfold dec
      simp only [g0]
      by_cases h1 : a < 128
      · rw [if_pos h1]; simp only; omega
      rw [if_neg h1]
      by_cases h2 : u8n a = 2 ∧ sndOk a ((a :: r).getD 1 0)
      · rw [if_pos h2]
        have := sr _ h2.2
        have := h2.1
        unfold u8n at this
        simp only
        repeat' split at this <;> omega
      rw [if_neg h2]
      by_cases h3 : u8n a = 3 ∧ sndOk a ((a :: r).getD 1 0) ∧ cont ((a :: r).getD 2 0)
      · rw [if_pos h3]
        have := sr _ h3.2.1
        have hc := h3.2.2
        unfold cont at hc
        have := h3.1
        unfold u8n at this
        simp only
        repeat' split at this <;> omega
      rw [if_neg h3]
      by_cases h4 : u8n a = 4 ∧ sndOk a ((a :: r).getD 1 0) ∧ cont ((a :: r).getD 2 0) ∧ cont ((a :: r).getD 3 0)
      · rw [if_pos h4]
        have := sr _ h4.2.1
        have hc := h4.2.2.1
        have hd := h4.2.2.2
        unfold cont at hc hd
        have := h4.1
        unfold u8n at this
        simp only
        repeat' split at this <;> omega
      rw [if_neg h4]
      simp only
      omega
  simp only [okRune, Bool.and_eq_true, decide_eq_true_eq, Bool.not_eq_true', Bool.and_eq_false_iff, decide_eq_false_iff_not]
  omega
theorem one_ok (en : Int) (L : List Int) (hL : ∀ u ∈ L, 0 ≤ u ∧ u < 256) (hne : L ≠ []) : okRune (one en L).1 = true := by
  have ur := unit_rng en L hL
  have ur2 := unit_rng en (L.drop 2) (fun u hu => hL u (List.mem_of_mem_drop hu))
  unfold one
  split
  · split
    · decide
    · exact dec_ok L hL hne
  · split
    · decide
    · split
      · decide
      · split
        · simp only [okRune, Bool.and_eq_true, decide_eq_true_eq, Bool.not_eq_true', Bool.and_eq_false_iff, decide_eq_false_iff_not]; omega
        · split
          · decide
          · split
            · decide
            · simp only [okRune, Bool.and_eq_true, decide_eq_true_eq, Bool.not_eq_true', Bool.and_eq_false_iff, decide_eq_false_iff_not]; omega
/-- What comes of bytes: what is held, the runes, how many bytes each has. -/
def feedU (en : Int) : Nat → List Int → List Int × List Int × List Int
  | 0, L => (L, [], [])
  | k + 1, L => if L = [] ∨ (one en L).2 = 0 then (L, [], []) else
    ((feedU en k (L.drop (one en L).2.toNat)).1, (one en L).1 :: (feedU en k (L.drop (one en L).2.toNat)).2.1, (one en L).2 :: (feedU en k (L.drop (one en L).2.toNat)).2.2)
theorem feedU_fuel (en : Int) : ∀ (k j : Nat) (L : List Int), (∀ u ∈ L, 0 ≤ u ∧ u < 256) → L.length ≤ k → L.length ≤ j → feedU en k L = feedU en j L := by
  intro k
  induction k with
  | zero =>
    intro j L _ h1 _
    have : L = [] := List.eq_nil_of_length_eq_zero (by omega)
    subst this
    cases j with
    | zero => rfl
    | succ j => simp [feedU]
  | succ k ih =>
    intro j L hL h1 h2
    cases j with
    | zero =>
      have : L = [] := List.eq_nil_of_length_eq_zero (by omega)
      subst this
      simp [feedU]
    | succ j =>
      rw [feedU, feedU]
      by_cases h : L = [] ∨ (one en L).2 = 0
      · rw [if_pos h, if_pos h]
      · rw [if_neg h, if_neg h]
        have hne : L ≠ [] := fun c => h (.inl c)
        have h0 : (one en L).2 ≠ 0 := fun c => h (.inr c)
        have := one_rng en L hL hne
        have hd : (L.drop (one en L).2.toNat).length = L.length - (one en L).2.toNat := List.length_drop
        have hp : 0 < L.length := List.length_pos_iff.2 hne
        rw [ih j (L.drop (one en L).2.toNat) (fun u hu => hL u (List.mem_of_mem_drop hu)) (by omega) (by omega)]
theorem feedU_len (en : Int) : ∀ (k : Nat) (L : List Int), (∀ u ∈ L, 0 ≤ u ∧ u < 256) → (feedU en k L).2.1.length ≤ L.length ∧ (feedU en k L).2.2.length = (feedU en k L).2.1.length ∧ (feedU en k L).2.1.all okRune = true ∧ (feedU en k L).2.2.all okLong = true := by
  intro k
  induction k with
  | zero => intro L _; simp [feedU]
  | succ k ih =>
    intro L hL
    rw [feedU]
    by_cases h : L = [] ∨ (one en L).2 = 0
    · rw [if_pos h]; simp
    · rw [if_neg h]
      have hne : L ≠ [] := fun c => h (.inl c)
      have h0 : (one en L).2 ≠ 0 := fun c => h (.inr c)
      have o := one_rng en L hL hne
      have ok := one_ok en L hL hne
      have hd : (L.drop (one en L).2.toNat).length = L.length - (one en L).2.toNat := List.length_drop
      have hp : 0 < L.length := List.length_pos_iff.2 hne
      obtain ⟨i1, i2, i3, i4⟩ := ih (L.drop (one en L).2.toNat) (fun u hu => hL u (List.mem_of_mem_drop hu))
      refine ⟨by simp only [List.length_cons]; omega, by simp only [List.length_cons, i2], by simp only [List.all_cons, ok, i3, Bool.and_self], ?_⟩
      simp only [List.all_cons, i4, Bool.and_true, okLong, Bool.and_eq_true, decide_eq_true_eq]
      omega
theorem p_specU (en : Int) : ∀ (k j : Nat) (S : ByteArray) (R G : List Int), S.size < k → S.size ≤ j → R.length + S.size ≤ 1000000 → R.length = G.length → ∃ T, zy.l2 en k S R G = some (T, R ++ (feedU en j (y9 S)).2.1, G ++ (feedU en j (y9 S)).2.2) ∧ y9 T = (feedU en j (y9 S)).1 := by
  intro k
  induction k with
  | zero => intro j S R G h; omega
  | succ k ih =>
    intro j S R G h hj hR hG
    have hs := size_bytes S
    have hr := bytes_rng S
    rw [zy.l2, strB, bytes_nil]
    by_cases hne : y9 S = []
    · rw [if_neg (by simp [hne])]
      have : feedU en j (y9 S) = (y9 S, [], []) := by
        cases j with
        | zero => rfl
        | succ j => rw [feedU, if_pos (.inl hne)]
      rw [this]
      exact ⟨S, by simp, rfl⟩
    · rw [if_pos (by simp [hne]), p_l2One en S hne (by omega)]
      have o := one_rng en (y9 S) hr hne
      have hp : 0 < (y9 S).length := List.length_pos_iff.2 hne
      obtain ⟨j, rfl⟩ := Nat.exists_eq_succ_of_ne_zero (show j ≠ 0 by omega)
      simp only [Option.bind_some]
      rw [feedU]
      by_cases h0 : (one en (y9 S)).2 = 0
      · rw [if_pos (by simpa using h0), if_pos (.inr h0)]
        exact ⟨S, by simp, rfl⟩
      · rw [if_neg (by simpa using h0), if_neg (fun c => c.elim hne h0)]
        rw [app?_at (by simp; omega), Option.bind_some, app?_at (by simp; omega), Option.bind_some]
        obtain ⟨T, t1, t2⟩ := cutS_at S (a := (one en (y9 S)).2.toNat) (b := S.size) (by omega) (Nat.le_refl _)
        rw [show (((one en (y9 S)).2.toNat : Nat) : Int) = (one en (y9 S)).2 by omega] at t1
        rw [hs, List.take_length] at t2
        have hT := size_bytes T
        rw [t2, List.length_drop] at hT
        rw [t1, Option.bind_some]
        obtain ⟨U, u1, u2⟩ := ih j T (R ++ [(one en (y9 S)).1]) (G ++ [(one en (y9 S)).2]) (by omega) (by omega) (by simp; omega) (by simp; omega)
        rw [t2] at u1 u2
        refine ⟨U, ?_, u2⟩
        rw [u1]
        simp
theorem p_implU (en : Int) (hd : ByteArray) (m : Int) (rs ls : List Int) (g : Int) (e : Bool) (hen : 1 ≤ en ∧ en ≤ 3) (sh : Int) : ∀ (k j : Nat) (S : ByteArray) (R G : List Int), S.size < k → S.size ≤ j → R.length + S.size ≤ 1000000 → R.length = G.length → ∃ T, z1e.l1 en hd m rs ls g e k R G S sh 0 = some (R ++ (feedU en j (y9 S)).2.1, G ++ (feedU en j (y9 S)).2.2, T, sh, 0) ∧ y9 T = (feedU en j (y9 S)).1 := by
  intro k
  induction k with
  | zero => intro j S R G h; omega
  | succ k ih =>
    intro j S R G h hj hR hG
    have hs := size_bytes S
    have hr := bytes_rng S
    rw [z1e.l1, strB, bytes_nil]
    cases hL : y9 S with
    | nil =>
      rw [if_neg (by simp)]
      have : feedU en j [] = ([], [], []) := by
        cases j with
        | zero => rfl
        | succ j => rw [feedU, if_pos (.inl rfl)]
      rw [this]
      exact ⟨S, by simp, hL⟩
    | cons a r =>
      have hne : a :: r ≠ [] := by simp
      have e5 : ¬ (en == 5) = true := by rw [beq_iff_eq]; omega
      rw [if_pos (by simp), if_neg e5]
      rw [hL] at hr hs
      have o := one_rng en (a :: r) hr hne
      have hp : 0 < (a :: r).length := by simp
      obtain ⟨j, rfl⟩ := Nat.exists_eq_succ_of_ne_zero (show j ≠ 0 by omega)
      simp only [Option.bind_some, Bool.false_eq_true, if_false]
      rw [p_nextS en sh 0 hd m rs ls g e S a r hL (by omega), if_neg (by omega), if_neg (by omega)]
      simp only [Option.bind_some]
      rw [feedU]
      by_cases h0 : (one en (a :: r)).2 = 0
      · rw [if_pos (by simpa using h0), if_pos (.inr h0)]
        exact ⟨S, by simp, hL⟩
      · rw [if_neg (by simpa using h0), if_neg (fun c => c.elim hne h0)]
        rw [y08 (n := (one en (a :: r)).2 + 0) (by omega) (by omega)]
        rw [app?_at (by simp; omega), Option.bind_some, app?_at (by simp; omega), Option.bind_some, Option.bind_some]
        obtain ⟨T, t1, t2⟩ := cutS_at S (a := (one en (a :: r)).2.toNat) (b := S.size) (by omega) (Nat.le_refl _)
        rw [show (((one en (a :: r)).2.toNat : Nat) : Int) = (one en (a :: r)).2 by omega] at t1
        rw [hL, hs, List.take_length] at t2
        have hT := size_bytes T
        rw [t2, List.length_drop] at hT
        simp only [t1, Option.bind_some]
        obtain ⟨U, u1, u2⟩ := ih j T (R ++ [(one en (a :: r)).1]) (G ++ [(one en (a :: r)).2 + 0]) (by omega) (by omega) (by simp; omega) (by simp; omega)
        rw [t2] at u1 u2
        refine ⟨U, ?_, u2⟩
        rw [u1]
        simp
theorem dec_app (L X : List Int) (hne : L ≠ []) (hb : begB L = false) : begB (L ++ X) = false ∧ dec (L ++ X) = dec L := by
  match L, hne, hb with
  | [a], _, hb =>
    have h : u8n a < 2 := by
      simp only [begB, decide_eq_false_iff_not] at hb
      omega
    have h2 : ¬ 2 ≤ u8n a := by omega
    refine ⟨?_, ?_⟩
    · match X with
      | [] => exact hb
      | [b] => simp [begB]; omega
      | [b, c] => simp [begB]; omega
      | _ :: _ :: _ :: _ => rfl
    · unfold dec
      simp only [show ([a] ++ X).getD 0 0 = a from rfl, show [a].getD 0 0 = a from rfl]
      by_cases h1 : a < 128
      · rw [if_pos h1, if_pos h1]
      · rw [if_neg h1, if_neg h1, if_neg (fun c => by omega), if_neg (fun c => by omega), if_neg (fun c => by omega), if_neg (fun c => by omega), if_neg (fun c => by omega), if_neg (fun c => by omega)]
  | [a, b], _, hb =>
    have h : ¬ (3 ≤ u8n a ∧ sndOk a b) := by
      intro c
      simp [begB, c.1, c.2] at hb
    refine ⟨?_, ?_⟩
    · match X with
      | [] => exact hb
      | [c] =>
        simp only [begB, List.cons_append, List.nil_append, Bool.and_eq_false_iff, decide_eq_false_iff_not]
        by_cases k : sndOk a b
        · left; intro c; exact h ⟨by omega, k⟩
        · right; left; exact k
      | _ :: _ :: _ => rfl
    · unfold dec
      simp only [show ([a, b] ++ X).getD 0 0 = a from rfl, show [a, b].getD 0 0 = a from rfl, show ([a, b] ++ X).getD 1 0 = b from rfl, show [a, b].getD 1 0 = b from rfl]
      by_cases h1 : a < 128
      · rw [if_pos h1, if_pos h1]
      rw [if_neg h1, if_neg h1]
      by_cases h2 : u8n a = 2 ∧ sndOk a b
      · rw [if_pos h2, if_pos h2]
      · rw [if_neg h2, if_neg h2, if_neg (fun c => h ⟨by omega, c.2.1⟩), if_neg (fun c => h ⟨by omega, c.2.1⟩), if_neg (fun c => h ⟨by omega, c.2.1⟩), if_neg (fun c => h ⟨by omega, c.2.1⟩)]
  | [a, b, c], _, hb =>
    have h : ¬ (4 ≤ u8n a ∧ sndOk a b ∧ cont c) := by
      intro k
      simp [begB, k.1, k.2.1, k.2.2] at hb
    refine ⟨?_, ?_⟩
    · match X with
      | [] => exact hb
      | _ :: _ => rfl
    · unfold dec
      simp only [show ([a, b, c] ++ X).getD 0 0 = a from rfl, show [a, b, c].getD 0 0 = a from rfl, show ([a, b, c] ++ X).getD 1 0 = b from rfl, show [a, b, c].getD 1 0 = b from rfl, show ([a, b, c] ++ X).getD 2 0 = c from rfl, show [a, b, c].getD 2 0 = c from rfl]
      by_cases h1 : a < 128
      · rw [if_pos h1, if_pos h1]
      rw [if_neg h1, if_neg h1]
      by_cases h2 : u8n a = 2 ∧ sndOk a b
      · rw [if_pos h2, if_pos h2]
      rw [if_neg h2, if_neg h2]
      by_cases h3 : u8n a = 3 ∧ sndOk a b ∧ cont c
      · rw [if_pos h3, if_pos h3]
      · rw [if_neg h3, if_neg h3, if_neg (fun k => h ⟨by omega, k.2.1, k.2.2.1⟩), if_neg (fun k => h ⟨by omega, k.2.1, k.2.2.1⟩)]
  | a :: b :: c :: d :: t, _, _ => exact ⟨rfl, rfl⟩
theorem unit_app (en : Int) (L X : List Int) (h : 2 ≤ L.length) : unitB en (L ++ X) = unitB en L := by
  match L, h with
  | a :: b :: t, _ => rfl
theorem one_app (en : Int) (L X : List Int) (hne : L ≠ []) (h : (one en L).2 ≠ 0) : one en (L ++ X) = one en L := by
  unfold one at h ⊢
  by_cases he : en = 1
  · rw [if_pos he] at h ⊢
    rw [if_pos he]
    cases hb : begB L with
    | true => rw [hb] at h; exact absurd rfl h
    | false =>
      have := dec_app L X hne hb
      rw [this.1, this.2]
  · rw [if_neg he] at h ⊢
    rw [if_neg he]
    by_cases h2 : L.length < 2
    · rw [if_pos h2] at h; exact absurd rfl h
    have hl : (L ++ X).length = L.length + X.length := List.length_append
    rw [if_neg h2] at h ⊢
    rw [if_neg (by omega), unit_app en L X (by omega)]
    split
    · rfl
    · rename_i c1
      rw [if_neg c1] at h
      split
      · rfl
      · rename_i c2
        rw [if_neg c2] at h
        by_cases h4 : L.length < 4
        · rw [if_pos h4] at h; exact absurd rfl h
        · have hd : (L.drop 2).length = L.length - 2 := List.length_drop
          rw [if_neg h4, if_neg (by omega), List.drop_append_of_le_length (by omega), unit_app en (L.drop 2) X (by omega)]
theorem feedU_app (en : Int) (X : List Int) (hX : ∀ u ∈ X, 0 ≤ u ∧ u < 256) : ∀ (k : Nat) (L : List Int), (∀ u ∈ L, 0 ≤ u ∧ u < 256) → L.length ≤ k →
    feedU en (k + X.length) (L ++ X) = ((feedU en ((feedU en k L).1.length + X.length) ((feedU en k L).1 ++ X)).1, (feedU en k L).2.1 ++ (feedU en ((feedU en k L).1.length + X.length) ((feedU en k L).1 ++ X)).2.1, (feedU en k L).2.2 ++ (feedU en ((feedU en k L).1.length + X.length) ((feedU en k L).1 ++ X)).2.2) := by
  intro k
  induction k with
  | zero =>
    intro L _ h
    have : L = [] := List.eq_nil_of_length_eq_zero (by omega)
    subst this
    simp [feedU]
  | succ k ih =>
    intro L hL hk
    have hLX : ∀ u ∈ L ++ X, 0 ≤ u ∧ u < 256 := fun u hu => (List.mem_append.1 hu).elim (hL u) (hX u)
    have hl : (L ++ X).length = L.length + X.length := List.length_append
    by_cases h : L = [] ∨ (one en L).2 = 0
    · have e : feedU en (k + 1) L = (L, [], []) := by rw [feedU, if_pos h]
      rw [e]
      simp only [List.nil_append]
      exact feedU_fuel en _ _ _ hLX (by omega) (by omega)
    · have hne : L ≠ [] := fun c => h (.inl c)
      have h0 : (one en L).2 ≠ 0 := fun c => h (.inr c)
      have o := one_rng en L hL hne
      have e1 := one_app en L X hne h0
      have ne2 : ¬ (L ++ X = [] ∨ (one en (L ++ X)).2 = 0) := by
        rw [e1]
        intro c
        exact c.elim (fun c => hne (List.append_eq_nil_iff.1 c).1) h0
      have hd : (L.drop (one en L).2.toNat).length = L.length - (one en L).2.toNat := List.length_drop
      rw [show k + 1 + X.length = (k + X.length) + 1 by omega, feedU, if_neg ne2, feedU, if_neg h, e1, List.drop_append_of_le_length (by omega)]
      rw [ih (L.drop (one en L).2.toNat) (fun u hu => hL u (List.mem_of_mem_drop hu)) (by omega)]
      simp only [List.cons_append]
theorem feedU_held (en sh lo : Int) (hen : en = 1 ∨ en = 2 ∨ en = 3) (h0 : okDec en sh lo [] = true) : ∀ (k : Nat) (L : List Int), (∀ u ∈ L, 0 ≤ u ∧ u < 256) → L.length ≤ k → okDec en sh lo (feedU en k L).1 = true := by
  intro k
  induction k with
  | zero =>
    intro L _ h
    have : L = [] := List.eq_nil_of_length_eq_zero (by omega)
    subst this
    exact h0
  | succ k ih =>
    intro L hL hk
    rw [feedU]
    by_cases h : L = [] ∨ (one en L).2 = 0
    · rw [if_pos h]
      by_cases hne : L = []
      · rw [hne]; exact h0
      have hz := h.resolve_left hne
      unfold okDec at h0 ⊢
      simp only [if_true, Bool.and_true] at h0
      rw [h0, if_neg hne, Bool.true_and]
      unfold one at hz
      by_cases he : en = 1
      · rw [if_pos he] at hz ⊢
        cases hb : begB L with
        | true => rfl
        | false =>
          rw [hb] at hz
          have := dec_rng L hL hne
          simp at hz
          omega
      · rw [if_neg he] at hz ⊢
        have h23 : en = 2 ∨ en = 3 := by omega
        rw [if_pos h23]
        have hp : 0 < L.length := List.length_pos_iff.2 hne
        by_cases h2 : L.length < 2
        · have : L.length = 1 := by omega
          simp [this]
        rw [if_neg h2] at hz
        split at hz
        · simp at hz
        · split at hz
          · simp at hz
          · rename_i c2
            split at hz
            · rename_i h4
              have := Decidable.of_not_not c2
              have l3 : L.length ≤ 3 := by omega
              simp [this.1, this.2, l3]
            · split at hz <;> simp at hz
    · rw [if_neg h]
      have hne : L ≠ [] := fun c => h (.inl c)
      have h0 : (one en L).2 ≠ 0 := fun c => h (.inr c)
      have o := one_rng en L hL hne
      have hd : (L.drop (one en L).2.toNat).length = L.length - (one en L).2.toNat := List.length_drop
      exact ih _ (fun u hu => hL u (List.mem_of_mem_drop hu)) (by omega)
/-- What comes of bytes of the one-byte code and of the shifting code: shift, how many bytes turned it last, the runes, how many bytes each has. -/
def feedS (en : Int) : Int → Int → List Int → Int × Int × List Int × List Int
  | sh, lo, [] => (sh, lo, [], [])
  | sh, lo, b :: r => if en = 5 ∧ (b = 14 ∨ b = 15) then feedS en (15 - b) (lo + 1) r else
    ((feedS en sh 0 r).1, (feedS en sh 0 r).2.1, (if en = 5 then shf sh b else b) :: (feedS en sh 0 r).2.2.1, (lo + 1) :: (feedS en sh 0 r).2.2.2)
theorem feedS_app (en : Int) (X : List Int) : ∀ (L : List Int) (sh lo : Int), feedS en sh lo (L ++ X) =
    ((feedS en (feedS en sh lo L).1 (feedS en sh lo L).2.1 X).1, (feedS en (feedS en sh lo L).1 (feedS en sh lo L).2.1 X).2.1,
      (feedS en sh lo L).2.2.1 ++ (feedS en (feedS en sh lo L).1 (feedS en sh lo L).2.1 X).2.2.1, (feedS en sh lo L).2.2.2 ++ (feedS en (feedS en sh lo L).1 (feedS en sh lo L).2.1 X).2.2.2) := by
  intro L
  induction L with
  | nil => intro sh lo; simp [feedS]
  | cons b L ih =>
    intro sh lo
    rw [List.cons_append, feedS, feedS]
    by_cases h : en = 5 ∧ (b = 14 ∨ b = 15)
    · rw [if_pos h, if_pos h]
      exact ih _ _
    · rw [if_neg h, if_neg h, ih]
      simp only [List.cons_append]
theorem feedS_lo (en : Int) : ∀ (L : List Int) (sh lo : Int), (feedS en sh lo L).2.1 ≤ 1000 → (feedS en sh lo L).2.2.2.all okLong = true → lo ≤ 1000 := by
  intro L
  induction L with
  | nil => intro sh lo h _; exact h
  | cons b L ih =>
    intro sh lo h1 h2
    rw [feedS] at h1 h2
    by_cases h : en = 5 ∧ (b = 14 ∨ b = 15)
    · rw [if_pos h] at h1 h2
      have := ih _ _ h1 h2
      omega
    · rw [if_neg h] at h2
      simp only [List.all_cons, Bool.and_eq_true, okLong, decide_eq_true_eq] at h2
      omega
theorem feedS_len (en : Int) : ∀ (L : List Int) (sh lo : Int), (∀ u ∈ L, 0 ≤ u ∧ u < 256) → (sh = 0 ∨ sh = 1) → 0 ≤ lo → (feedS en sh lo L).2.2.1.length ≤ L.length ∧ (feedS en sh lo L).2.2.2.length = (feedS en sh lo L).2.2.1.length ∧ (feedS en sh lo L).2.2.1.all okRune = true ∧ ((feedS en sh lo L).1 = 0 ∨ (feedS en sh lo L).1 = 1) ∧ 0 ≤ (feedS en sh lo L).2.1 ∧ (feedS en sh lo L).2.1 ≤ lo + L.length := by
  intro L
  induction L with
  | nil => intro sh lo _ hs h; simp [feedS, hs, h]
  | cons b L ih =>
    intro sh lo hL hs h0
    have hb := hL b List.mem_cons_self
    rw [feedS]
    by_cases h : en = 5 ∧ (b = 14 ∨ b = 15)
    · rw [if_pos h]
      obtain ⟨i1, i2, i3, i4, i5, i6⟩ := ih (15 - b) (lo + 1) (fun u hu => hL u (List.mem_cons_of_mem _ hu)) (by omega) (by omega)
      exact ⟨by simp only [List.length_cons]; omega, i2, i3, i4, i5, by simp only [List.length_cons]; omega⟩
    · rw [if_neg h]
      obtain ⟨i1, i2, i3, i4, i5, i6⟩ := ih sh 0 (fun u hu => hL u (List.mem_cons_of_mem _ hu)) hs (by omega)
      have ok : okRune (if en = 5 then shf sh b else b) = true := by
        simp only [okRune, Bool.and_eq_true, decide_eq_true_eq, Bool.not_eq_true', Bool.and_eq_false_iff, decide_eq_false_iff_not]
        unfold shf
        repeat' split
        all_goals omega
      exact ⟨by simp only [List.length_cons]; omega, by simp only [List.length_cons, i2], by simp only [List.all_cons, ok, i3, Bool.and_self], i4, i5, by simp only [List.length_cons]; omega⟩
theorem p_specS (en : Int) (hen : en = 4 ∨ en = 5) (S : ByteArray) : ∀ (k i : Nat) (R G : List Int) (sh lo : Int), i ≤ S.size → S.size - i < k → (sh = 0 ∨ sh = 1) → 0 ≤ lo → lo + S.size ≤ 1000000 + i → R.length + S.size ≤ 1000000 + i → R.length = G.length → S.size ≤ 1000000 →
    zy.l1 en S k R G i sh lo = some (R ++ (feedS en sh lo ((y9 S).drop i)).2.2.1, G ++ (feedS en sh lo ((y9 S).drop i)).2.2.2, (feedS en sh lo ((y9 S).drop i)).1, (feedS en sh lo ((y9 S).drop i)).2.1) := by
  intro k
  induction k with
  | zero => intro i R G sh lo h1 h2; omega
  | succ k ih =>
    intro i R G sh lo hi hk hsh hlo hl hR hG hS
    have hs := size_bytes S
    rw [zy.l1]
    by_cases h : i < S.size
    · rw [if_pos (by rw [decide_eq_true_eq]; omega)]
      have hpl : i < (y9 S).length := by omega
      have hd := List.drop_eq_getElem_cons hpl
      have hb := bytes_rng S _ (List.getElem_mem hpl)
      have h0 : rdS? S (i : Int) = some (y9 S)[i] := by rw [rdS_at, List.getElem?_eq_getElem hpl]
      generalize (y9 S)[i] = b at *
      rw [h0, hd, feedS]
      simp only [Option.bind_some]
      rw [y08 (n := b) (by omega) (by omega), wrapN i (by omega), y08 (n := 15 - b) (by omega) (by omega), y08 (n := lo + 1) (by omega) (by omega)]
      by_cases hc : en = 5 ∧ (b = 14 ∨ b = 15)
      · have e : (if (en == 5) = true then (if (b == 14) = true then (some true) else (some (b == 15))) else (some false)) = some true := by
          rcases hc with ⟨rfl, rfl | rfl⟩ <;> rfl
        rw [e, if_pos hc]
        simp only [Option.bind_some, if_true]
        exact ih (i + 1) R G (15 - b) (lo + 1) (by omega) (by omega) (by omega) (by omega) (by omega) (by omega) hG hS
      · have e : (if (en == 5) = true then (if (b == 14) = true then (some true) else (some (b == 15))) else (some false)) = some false := by
          by_cases h5 : en = 5
          · have a1 : b ≠ 14 := fun c => hc ⟨h5, .inl c⟩
            have a2 : b ≠ 15 := fun c => hc ⟨h5, .inr c⟩
            simp [h5, a1, a2]
          · simp [h5]
        rw [e, if_neg hc, p_specShf sh b hsh hb.1 hb.2]
        have e2 : (if (en == 5) = true then ((some (shf sh b)).bind fun u1201 => some u1201) else (some b)) = some (if en = 5 then shf sh b else b) := by
          by_cases h5 : en = 5 <;> simp [h5]
        simp only [Option.bind_some, Bool.false_eq_true, if_false]
        simp only [Option.bind_some] at e2
        rw [e2, Option.bind_some, app?_at (by simp; omega), Option.bind_some, app?_at (by simp; omega), Option.bind_some, Option.bind_some]
        refine (ih (i + 1) (R ++ [if en = 5 then shf sh b else b]) (G ++ [lo + 1]) sh 0 (by omega) (by omega) hsh (by omega) (by omega) (by simp; omega) (by simp; omega) hS).trans ?_
        simp
    · rw [if_neg (by rw [decide_eq_true_eq]; omega), List.drop_eq_nil_of_le (by omega)]
      simp [feedS]
theorem p_implS (en : Int) (hen : en = 4 ∨ en = 5) (hd : ByteArray) (m : Int) (rs ls : List Int) (g : Int) (e : Bool) : ∀ (k : Nat) (S : ByteArray) (R G : List Int) (sh lo : Int), S.size < k → (sh = 0 ∨ sh = 1) → 0 ≤ lo → lo + S.size ≤ 1000000 → R.length + S.size ≤ 1000000 → R.length = G.length → ∃ T, z1e.l1 en hd m rs ls g e k R G S sh lo = some (R ++ (feedS en sh lo (y9 S)).2.2.1, G ++ (feedS en sh lo (y9 S)).2.2.2, T, (feedS en sh lo (y9 S)).1, (feedS en sh lo (y9 S)).2.1) ∧ y9 T = [] := by
  intro k
  induction k with
  | zero => intro S R G sh lo h; omega
  | succ k ih =>
    intro S R G sh lo hk hsh hlo hl hR hG
    have hs := size_bytes S
    have hr := bytes_rng S
    rw [z1e.l1, strB, bytes_nil]
    cases hL : y9 S with
    | nil =>
      rw [if_neg (by simp)]
      exact ⟨S, by simp [feedS], hL⟩
    | cons b r =>
      rw [if_pos (by simp)]
      rw [hL] at hr hs
      have hb := hr b List.mem_cons_self
      have hl1 : (b :: r).length = r.length + 1 := rfl
      have h0 := rdS_at S 0
      rw [show ((0 : Nat) : Int) = 0 from rfl, hL, List.getElem?_cons_zero] at h0
      obtain ⟨T, t1, t2⟩ := cutS_at S (a := 1) (b := S.size) (by omega) (Nat.le_refl _)
      rw [show ((1 : Nat) : Int) = 1 from rfl] at t1
      rw [hL, hs, List.take_length, List.drop_one, List.tail_cons] at t2
      have hT := size_bytes T
      rw [t2] at hT
      rw [h0, feedS, p_nextS en sh lo hd m rs ls g e S b r hL (by omega)]
      simp only [Option.bind_some]
      rw [y08 (n := b) (by omega) (by omega), y08 (n := 15 - b) (by omega) (by omega), y08 (n := lo + 1) (by omega) (by omega), t1]
      by_cases hc : en = 5 ∧ (b = 14 ∨ b = 15)
      · have e : (if (en == 5) = true then (if (b == 14) = true then (some true) else (some (b == 15))) else (some false)) = some true := by
          rcases hc with ⟨rfl, rfl | rfl⟩ <;> rfl
        rw [e, if_pos hc]
        simp only [Option.bind_some, if_true]
        obtain ⟨U, u1, u2⟩ := ih T R G (15 - b) (lo + 1) (by omega) (by omega) (by omega) (by omega) (by omega) hG
        rw [t2] at u1
        exact ⟨U, u1, u2⟩
      · have e : (if (en == 5) = true then (if (b == 14) = true then (some true) else (some (b == 15))) else (some false)) = some false := by
          by_cases h5 : en = 5
          · have a1 : b ≠ 14 := fun c => hc ⟨h5, .inl c⟩
            have a2 : b ≠ 15 := fun c => hc ⟨h5, .inr c⟩
            simp [h5, a1, a2]
          · simp [h5]
        rw [e, if_neg hc]
        have e2 : (if en = 4 then (b, (1 : Int)) else if en = 5 then (shf sh b, 1) else one en (b :: r)) = (if en = 5 then shf sh b else b, 1) := by
          rcases hen with rfl | rfl <;> simp
        rw [e2]
        have z : ¬ ((1 : Int) == 0) = true := by decide
        simp only [Option.bind_some, Bool.false_eq_true, if_false]
        rw [if_neg z, y08 (n := 1 + lo) (by omega) (by omega), app?_at (by simp; omega), Option.bind_some, app?_at (by simp; omega), Option.bind_some, Option.bind_some]
        simp only [t1, Option.bind_some]
        obtain ⟨U, u1, u2⟩ := ih T (R ++ [if en = 5 then shf sh b else b]) (G ++ [1 + lo]) sh 0 (by omega) hsh (by omega) (by omega) (by simp; omega) (by simp; omega)
        rw [t2] at u1
        refine ⟨U, ?_, u2⟩
        rw [u1]
        simp [Int.add_comm]
def okSess (en sh lo : Int) (L : List Int) (m : Int) (rs ls : List Int) (g : Int) (eof : Bool) : Bool := okDec en sh lo L && okBuf m rs ls g && (!eof || decide (L = []))
theorem p_implSess (en sh lo : Int) (S : ByteArray) (m : Int) (rs ls : List Int) (g : Int) (eof : Bool) (hr : rs.length ≤ big) (hl : ls.length ≤ big) : z14.f en sh lo S m rs ls g eof = some (okSess en sh lo (y9 S) m rs ls g eof) := by
  unfold z14.f okSess
  rw [p_implDec]
  simp only [Option.bind_some, p_implBuf m rs ls g hr hl, strB, bytes_nil]
  cases okDec en sh lo (y9 S) <;> cases okBuf m rs ls g <;> cases eof <;> simp
  exact decide_eq_decide.2 Iff.rfl
theorem p_specSess (en sh lo : Int) (S : ByteArray) (m : Int) (rs ls : List Int) (g : Int) (eof : Bool) (hr : rs.length ≤ big) (hl : ls.length ≤ big) : zr.f en sh lo S m rs ls g eof = some (okSess en sh lo (y9 S) m rs ls g eof) := by
  unfold zr.f okSess
  rw [p_specDec]
  simp only [Option.bind_some, p_specBuf m rs ls g hr hl, strB, bytes_nil]
  cases okDec en sh lo (y9 S) <;> cases okBuf m rs ls g <;> cases eof <;> simp
  exact decide_eq_decide.2 Iff.rfl
theorem okDec_nil {en sh lo : Int} {L : List Int} (h : okDec en sh lo L = true) : okDec en sh lo [] = true := by
  unfold okDec at *
  simp only [Bool.and_eq_true] at h ⊢
  exact ⟨h.1, by simp⟩
theorem okDec_len {en sh lo : Int} {L : List Int} (h : okDec en sh lo L = true) : L.length ≤ 3 := by
  unfold okDec at h
  simp only [Bool.and_eq_true] at h
  have h := h.2
  by_cases hL : L = []
  · simp [hL]
  · rw [if_neg hL] at h
    by_cases h1 : en = 1
    · rw [if_pos h1] at h
      match L, h with
      | [_], _ => simp
      | [_, _], _ => simp
      | [_, _, _], _ => simp
      | _ :: _ :: _ :: _ :: _, h => simp [begB] at h
    · rw [if_neg h1] at h
      by_cases h2 : en = 2 ∨ en = 3
      · rw [if_pos h2] at h
        simp only [Bool.and_eq_true, decide_eq_true_eq] at h
        exact h.1
      · rw [if_neg h2] at h
        cases h
/-- What comes of bytes: shift, loose, what is held, the runes, how many bytes each has. -/
def feedD (en sh lo : Int) (H B : List Int) : Int × Int × List Int × List Int × List Int :=
  if en = 4 ∨ en = 5 then ((feedS en sh lo B).1, (feedS en sh lo B).2.1, H, (feedS en sh lo B).2.2.1, (feedS en sh lo B).2.2.2)
  else (sh, lo, feedU en (H.length + B.length) (H ++ B))
theorem okDec_cases {en sh lo : Int} {L : List Int} (h : okDec en sh lo L = true) : 1 ≤ en ∧ en ≤ 5 ∧ (sh = 0 ∨ sh = 1) ∧ 0 ≤ lo ∧ lo ≤ 1000 ∧ (en ≠ 5 → sh = 0 ∧ lo = 0) ∧ (en = 4 ∨ en = 5 → L = []) := by
  unfold okDec at h
  simp only [Bool.and_eq_true, decide_eq_true_eq, Bool.not_eq_true', Bool.and_eq_false_iff, decide_eq_false_iff_not] at h
  obtain ⟨⟨⟨⟨h1, h2⟩, h3⟩, h4⟩, h5⟩ := h
  refine ⟨h1.1, h1.2, by omega, h3.1, h3.2, fun c => ?_, fun c => ?_⟩
  · rcases h4 with h4 | h4
    · exact absurd c h4
    · omega
  · by_cases hL : L = []
    · exact hL
    · rw [if_neg hL, if_neg (by omega), if_neg (by omega)] at h5
      cases h5
theorem p_specFeed (en sh lo : Int) (hd p : ByteArray) (hok : okDec en sh lo (y9 hd) = true) (hp : p.size ≤ 1000) : ∃ T, zy.f en sh lo hd p = some (en, (feedD en sh lo (y9 hd) (y9 p)).1, (feedD en sh lo (y9 hd) (y9 p)).2.1, T, (feedD en sh lo (y9 hd) (y9 p)).2.2.2.1, (feedD en sh lo (y9 hd) (y9 p)).2.2.2.2) ∧ y9 T = (feedD en sh lo (y9 hd) (y9 p)).2.2.1 := by
  obtain ⟨c1, c2, c3, c4, c5, c6, c7⟩ := okDec_cases hok
  have hl := okDec_len hok
  have hs := size_bytes hd
  have hs2 := size_bytes p
  unfold zy.f feedD
  by_cases h : en = 4 ∨ en = 5
  · have e : (if (en == 4) = true then (some true) else (some (en == 5))) = some true := by rcases h with rfl | rfl <;> rfl
    have := p_specS en h p (((p.size : Int) - 0).toNat + 2) 0 [] [] sh lo (by omega) (by omega) c3 c4 (by omega) (by simp; omega) rfl (by omega)
    rw [show ((0 : Nat) : Int) = 0 from rfl, List.drop_zero, List.nil_append, List.nil_append] at this
    rw [e, if_pos h]
    simp only [Option.bind_some, if_true]
    rw [this]
    exact ⟨hd, rfl, rfl⟩
  · have e : (if (en == 4) = true then (some true) else (some (en == 5))) = some false := by
      have a : en ≠ 4 := fun c => h (.inl c)
      have b : en ≠ 5 := fun c => h (.inr c)
      simp [a, b]
    obtain ⟨c, k1, k2⟩ := cat_at (n := 1000000000000) (a := hd) (b := p) (by omega)
    have hc := size_bytes c
    rw [k2, List.length_append] at hc
    obtain ⟨T, t1, t2⟩ := p_specU en (hd.size + p.size + 2) ((y9 hd).length + (y9 p).length) c [] [] (by omega) (by omega) (by simp; omega) rfl
    rw [k2] at t1 t2
    rw [e, if_neg h]
    simp only [Option.bind_some, Bool.false_eq_true, if_false]
    rw [k1]
    simp only [Option.bind_some]
    rw [t1]
    exact ⟨T, by simp, t2⟩
theorem p_implFeed (en sh lo : Int) (hd p : ByteArray) (m : Int) (rs ls : List Int) (g : Int) (e : Bool) (hok : okDec en sh lo (y9 hd) = true) (hp : p.size ≤ 1000) : ∃ T, z1e.f en sh lo hd m rs ls g e p = some ((feedD en sh lo (y9 hd) (y9 p)).2.2.2.1, (feedD en sh lo (y9 hd) (y9 p)).2.2.2.2, (feedD en sh lo (y9 hd) (y9 p)).1, (feedD en sh lo (y9 hd) (y9 p)).2.1, T) ∧ y9 T = (feedD en sh lo (y9 hd) (y9 p)).2.2.1 := by
  obtain ⟨c1, c2, c3, c4, c5, c6, c7⟩ := okDec_cases hok
  have hl := okDec_len hok
  have hs := size_bytes hd
  have hs2 := size_bytes p
  unfold z1e.f feedD
  obtain ⟨c, k1, k2⟩ := cat_at (n := 1000000000000) (a := hd) (b := p) (by omega)
  have hc := size_bytes c
  rw [k2, List.length_append] at hc
  rw [k1, Option.bind_some]
  by_cases h : en = 4 ∨ en = 5
  · obtain ⟨T, t1, t2⟩ := p_implS en h hd m rs ls g e (hd.size + p.size + 2) c [] [] sh lo (by omega) c3 c4 (by omega) (by simp; omega) rfl
    rw [k2, c7 h, List.nil_append] at t1
    rw [t1, if_pos h]
    exact ⟨T, by simp, by rw [t2, c7 h]⟩
  · have h5 : en ≠ 5 := fun c => h (.inr c)
    have h4 : en ≠ 4 := fun c => h (.inl c)
    have := c6 h5
    obtain ⟨T, t1, t2⟩ := p_implU en hd m rs ls g e (by omega) sh (hd.size + p.size + 2) ((y9 hd).length + (y9 p).length) c [] [] (by omega) (by omega) (by simp; omega) rfl
    rw [k2] at t1 t2
    rw [this.2, t1, if_neg h]
    exact ⟨T, by simp, t2⟩
theorem p_own (x : List Int) (hx : x.length ≤ big) : z00.f x = some x := by
  unfold z00.f
  unfold big at hx
  rw [app?_at (by simpa using hx)]
  rfl
theorem p_clone (x : List Int) (hx : x.length ≤ big) : z15.f x = some x := by
  unfold z15.f
  unfold big at hx
  rw [app?_at (by simpa using hx)]
  rfl
theorem cut0 {x : List Int} {n : Nat} (h : n ≤ x.length) : cut? x 0 (n : Int) = some (x.take n) := by
  have := cut?_at (xs := x) (a := 0) (b := n) (by omega) h
  rw [show ((0 : Nat) : Int) = 0 from rfl] at this
  simpa using this
theorem cutE {x : List Int} {n : Nat} (h : n ≤ x.length) : cut? x (n : Int) (x.length : Int) = some (x.drop n) := by
  have := cut?_at (xs := x) (a := n) (b := x.length) h (by omega)
  simpa using this
theorem p_grow (n : Nat) (hn : n ≤ big) : z1j.f (n : Int) = some [] := by
  unfold z1j.f
  unfold big at hn
  have e0 : IntKind.i64.wrap (0 - 0) = 0 := by decide
  have e1 : IntKind.i64.wrap ((n : Int) - 0) = n := by rw [Int.sub_zero]; exact y08 (by omega) (by omega)
  rw [if_neg (by simp), e0, e1]
  by_cases h : 0 < n
  · rw [if_pos (by simpa using h), mk?_at (by omega)]
    have c1 : cut? ([] : List Int) 0 0 = some [] := cut0 (x := []) (n := 0) (by simp)
    have c2 : cut? (List.replicate n (0 : Int)) 0 0 = some [] := by simpa using cut0 (x := List.replicate n (0 : Int)) (n := 0) (by simp)
    rw [c1]
    simp only [Option.bind_some]
    rw [c2]
    rfl
  · rw [if_neg (by simpa using h)]
    rfl
theorem p_concat (a b : List Int) (h : a.length + b.length ≤ big) : z1k.f [a, b] = some (a ++ b) := by
  have hh : a.length + b.length ≤ big := h
  unfold big at h
  have l1 : z1k.l1 [a, b] 4 0 0 = some (((a.length + b.length : Nat)) : Int) := by
    rw [z1k.l1]
    have w1 : IntKind.i64.wrap (0 + (a.length : Int)) = a.length := by rw [Int.zero_add]; exact y08 (by omega) (by omega)
    have w2 : IntKind.i64.wrap ((a.length : Int) + (b.length : Int)) = ((a.length + b.length : Nat) : Int) := by rw [y08 (by omega) (by omega)]; omega
    have i1 : IntKind.i64.wrap (0 + 1) = 1 := by decide
    have i2 : IntKind.i64.wrap (1 + 1) = 2 := by decide
    have r0 : rd? [a, b] 0 = some a := rd?_at (xs := [a, b]) (i := 0) (by simp)
    have r1 : rd? [a, b] 1 = some b := rd?_at (xs := [a, b]) (i := 1) (by simp)
    rw [if_pos (by simp), r0]
    simp only [Option.bind_some]
    rw [w1, if_neg (by simp), i1, z1k.l1, if_pos (by simp), r1]
    simp only [Option.bind_some]
    rw [w2, if_neg (by simp; omega), i2, z1k.l1, if_neg (by simp)]
  have l2 : z1k.l2 [a, b] 4 [] 0 = some (a ++ b) := by
    have i1 : IntKind.i64.wrap (0 + 1) = 1 := by decide
    have i2 : IntKind.i64.wrap (1 + 1) = 2 := by decide
    have r0 : rd? [a, b] 0 = some a := rd?_at (xs := [a, b]) (i := 0) (by simp)
    have r1 : rd? [a, b] 1 = some b := rd?_at (xs := [a, b]) (i := 1) (by simp)
    rw [z1k.l2, if_pos (by simp), r0]
    simp only [Option.bind_some]
    rw [app?_at (by simp; omega)]
    simp only [Option.bind_some, List.nil_append]
    rw [i1, z1k.l2, if_pos (by simp), r1]
    simp only [Option.bind_some]
    rw [app?_at (by omega)]
    simp only [Option.bind_some]
    rw [i2, z1k.l2, if_neg (by simp)]
  unfold z1k.f
  show (z1k.l1 [a, b] 4 0 0).bind _ = _
  rw [l1]
  simp only [Option.bind_some]
  rw [p_grow _ hh]
  simp only [Option.bind_some]
  show (z1k.l2 [a, b] 4 [] 0).bind _ = _
  rw [l2]
  rfl
def addAll (s : Int) (xs : List Int) : Int := xs.foldl (fun s u => IntKind.i64.wrap (s + u)) s
theorem p_bytes (x : List Int) (hx : x.length ≤ big) (g : Int) : z1l.l1 x (((x.length : Int) - 0).toNat + 2) g 0 = some (addAll g x) := by
  have := run_loop x hx (fun s u K => K (IntKind.i64.wrap (s + u))) (fun s => some s) (z1l.l1 x) (fun _ _ _ => rfl) (((x.length : Int) - 0).toNat + 2) 0 g (by omega) (by omega)
  rw [show ((0 : Nat) : Int) = 0 from rfl] at this
  rw [this, List.drop_zero, runS_fold (fun s u => IntKind.i64.wrap (s + u))]
  rfl
theorem p_dropSum (x : List Int) (hx : x.length ≤ big) (g : Int) : z02.l1 x (((x.length : Int) - 0).toNat + 2) 0 g = some (addAll g x) := by
  have := run_loop x hx (fun s u K => K (IntKind.i64.wrap (s + u))) (fun s => some s) (fun k s i => z02.l1 x k i s) (fun _ _ _ => rfl) (((x.length : Int) - 0).toNat + 2) 0 g (by omega) (by omega)
  rw [show ((0 : Nat) : Int) = 0 from rfl] at this
  rw [this, List.drop_zero, runS_fold (fun s u => IntKind.i64.wrap (s + u))]
  rfl
theorem p_drop (m : Int) (rs ls : List Int) (g : Int) (n : Nat) (hn : n ≤ rs.length) (hl : n ≤ ls.length) (h1 : rs.length ≤ big) (h2 : ls.length ≤ big) : z02.f m rs ls g n = some (m, rs.drop n, ls.drop n, addAll g (ls.take n), rs.take n) := by
  unfold z02.f
  rw [cut0 hn, cut0 hl, cutE hn, cutE hl]
  simp only [Option.bind_some]
  rw [p_own _ (by simp; omega), p_own _ (by simp; omega), p_own _ (by simp; omega)]
  simp only [Option.bind_some]
  rw [p_dropSum _ (by simp; omega)]
  rfl
theorem p_most (a b : Int) : z01.f a b = some (max a b) := by
  unfold z01.f
  by_cases h : a > b
  · rw [if_pos (by simpa using h), Int.max_eq_left (by omega)]
  · rw [if_neg (by simpa using h), Int.max_eq_right (by omega)]
def over (m : Int) (xs : List Int) : Nat := (max 0 ((xs.length : Int) - m)).toNat
def putOk (m : Int) (rs ls : List Int) (g : Int) (p q : List Int) : Bool := okBuf m rs ls g && decide (p.length = q.length) && decide (p.length ≤ 1000) && q.all okLong && p.all okRune && okBuf m ((rs ++ p).drop (over m (rs ++ p))) ((ls ++ q).drop (over m (rs ++ p))) (addAll g ((ls ++ q).take (over m (rs ++ p))))
def putR (m : Int) (rs ls : List Int) (g : Int) (p q : List Int) : Int × List Int × List Int × Int × List Int × Bool := if putOk m rs ls g p q then (m, (rs ++ p).drop (over m (rs ++ p)), (ls ++ q).drop (over m (rs ++ p)), addAll g ((ls ++ q).take (over m (rs ++ p))), (rs ++ p).take (over m (rs ++ p)), true) else (0, [], [], 0, [], false)
/-- Plain sums. -/
def lsum : List Int → Int
  | [] => 0
  | x :: xs => x + lsum xs
theorem lsum_app : ∀ a b, lsum (a ++ b) = lsum a + lsum b
  | [], b => by simp [lsum]
  | x :: a, b => by simp only [List.cons_append, lsum, lsum_app a b]; omega
theorem lsum_bd : ∀ a : List Int, a.all okLong = true → (a.length : Int) ≤ lsum a ∧ lsum a ≤ 1000 * a.length
  | [], _ => by simp [lsum]
  | x :: a, h => by
    rw [List.all_cons, Bool.and_eq_true] at h
    have ih := lsum_bd a h.2
    have hx := h.1
    simp only [okLong, Bool.and_eq_true, decide_eq_true_eq] at hx
    simp only [lsum, List.length_cons]
    omega
theorem addAll_sum : ∀ (a : List Int) (g : Int), a.all okLong = true → 0 ≤ g → g + 1000 * a.length ≤ 1000000000 → addAll g a = g + lsum a
  | [], g, _, _, _ => by simp [addAll, lsum]
  | x :: a, g, h, h0, h1 => by
    rw [List.all_cons, Bool.and_eq_true] at h
    have hx := h.1
    simp only [okLong, Bool.and_eq_true, decide_eq_true_eq] at hx
    simp only [List.length_cons] at h1
    show addAll (IntKind.i64.wrap (g + x)) a = _
    rw [y08 (by omega) (by omega), addAll_sum a (g + x) h.2 (by omega) (by omega)]
    simp only [lsum]
    omega
theorem addAll_app (g : Int) (a b : List Int) : addAll g (a ++ b) = addAll (addAll g a) b := by simp [addAll]
theorem all_take {t : Int → Bool} {a : List Int} (h : a.all t = true) (n : Nat) : (a.take n).all t = true := by
  rw [List.all_eq_true] at h ⊢
  exact fun x hx => h x (List.mem_of_mem_take hx)
theorem all_drop {t : Int → Bool} {a : List Int} (h : a.all t = true) (n : Nat) : (a.drop n).all t = true := by
  rw [List.all_eq_true] at h ⊢
  exact fun x hx => h x (List.mem_of_mem_drop hx)
theorem over_eq (m : Int) (xs : List Int) (h : 0 ≤ m) : over m xs = xs.length - m.toNat := by unfold over; omega
/-- What comes in two pieces. -/
theorem put_split {m : Int} {rs ls : List Int} {g : Int} {p q : List Int} (h : putOk m rs ls g p q = true) (k : Nat) (hk : k ≤ p.length) :
    putOk m rs ls g (p.take k) (q.take k) = true ∧
    ∀ rs' ls' g' t, putR m rs ls g (p.take k) (q.take k) = (m, rs', ls', g', t, true) → putOk m rs' ls' g' (p.drop k) (q.drop k) = true ∧ putR m rs' ls' g' (p.drop k) (q.drop k) = (m, (putR m rs ls g p q).2.1, (putR m rs ls g p q).2.2.1, (putR m rs ls g p q).2.2.2.1, (putR m rs' ls' g' (p.drop k) (q.drop k)).2.2.2.2.1, true) ∧ t ++ (putR m rs' ls' g' (p.drop k) (q.drop k)).2.2.2.2.1 = (putR m rs ls g p q).2.2.2.2.1 := by
  have hall := h
  unfold putOk at h
  simp only [Bool.and_eq_true, decide_eq_true_eq] at h
  obtain ⟨⟨⟨⟨⟨h1, h2⟩, h3⟩, h4⟩, h5⟩, h6⟩ := h
  have hb := h1
  have hb6 := h6
  simp only [okBuf, Bool.and_eq_true, decide_eq_true_eq, beq_iff_eq] at h1 h6
  obtain ⟨⟨⟨⟨⟨a1, a2⟩, a3⟩, a4⟩, a5⟩, a6⟩ := h1
  obtain ⟨⟨⟨⟨⟨c1, c2⟩, c3⟩, c4⟩, c5⟩, c6⟩ := h6
  obtain ⟨M, rfl⟩ := Int.eq_ofNat_of_zero_le (show 0 ≤ m by omega)
  have hls : ls.length = rs.length := by omega
  have e0 : over (M : Int) (rs ++ p) = rs.length + p.length - M := by rw [over_eq _ _ (by omega)]; simp
  have e1 : over (M : Int) (rs ++ p.take k) = rs.length + k - M := by rw [over_eq _ _ (by omega)]; simp; omega
  have hsplit1 : rs ++ p = rs ++ p.take k ++ p.drop k := by rw [List.append_assoc, List.take_append_drop]
  have hsplit2 : ls ++ q = ls ++ q.take k ++ q.drop k := by rw [List.append_assoc, List.take_append_drop]
  have hq4 : (ls ++ q).all okLong = true := by rw [List.all_append, a5, h4]; rfl
  have hq5 : (rs ++ p).all okRune = true := by rw [List.all_append, a3, h5]; rfl
  have hlt1 : (rs ++ p.take k).length = rs.length + k := by simp; omega
  have hlt2 : (ls ++ q.take k).length = rs.length + k := by simp; omega
  have t1 : (ls ++ q.take k).take (rs.length + k - M) = (ls ++ q).take (rs.length + k - M) := by rw [hsplit2, List.take_append_of_le_length (l₁ := ls ++ q.take k) (by omega)]
  have s1 : (ls ++ q).take (rs.length + p.length - M) = (ls ++ q).take (rs.length + k - M) ++ ((ls ++ q).drop (rs.length + k - M)).take ((rs.length + p.length - M) - (rs.length + k - M)) := by
    have : rs.length + p.length - M = (rs.length + k - M) + ((rs.length + p.length - M) - (rs.length + k - M)) := by omega
    rw [this, List.take_add]
    congr 2
    omega
  have g1 := addAll_sum ((ls ++ q).take (rs.length + k - M)) g (all_take hq4 _) (by omega) (by simp; omega)
  have g2 := addAll_sum ((ls ++ q).take (rs.length + p.length - M)) g (all_take hq4 _) (by omega) (by simp; omega)
  have g3 := (lsum_bd ((ls ++ q).take (rs.length + k - M)) (all_take hq4 _)).1
  have g4 := (lsum_bd (((ls ++ q).drop (rs.length + k - M)).take ((rs.length + p.length - M) - (rs.length + k - M))) (all_take (all_drop hq4 _) _)).1
  have g5 : lsum ((ls ++ q).take (rs.length + p.length - M)) = lsum ((ls ++ q).take (rs.length + k - M)) + lsum (((ls ++ q).drop (rs.length + k - M)).take ((rs.length + p.length - M) - (rs.length + k - M))) := by rw [← lsum_app, ← s1]
  rw [e0] at c6
  have hq1 : (q.take k).all okLong = true := all_take h4 _
  have hp1 : (p.take k).all okRune = true := all_take h5 _
  have dl1 : ((rs ++ p.take k).drop (rs.length + k - M)).length = rs.length + k - (rs.length + k - M) := by rw [List.length_drop, hlt1]
  have dl2 : ((ls ++ q.take k).drop (rs.length + k - M)).length = rs.length + k - (rs.length + k - M) := by rw [List.length_drop, hlt2]
  have ok1 : putOk (M : Int) rs ls g (p.take k) (q.take k) = true := by
    unfold putOk
    rw [e1, t1, hb, hq1, hp1]
    simp only [Bool.true_and, Bool.and_true, Bool.and_eq_true, decide_eq_true_eq]
    refine ⟨⟨by simp; omega, by simp; omega⟩, ?_⟩
    simp only [okBuf, Bool.and_eq_true, decide_eq_true_eq, beq_iff_eq]
    refine ⟨⟨⟨⟨⟨a1, by rw [dl1]; omega⟩, ?_⟩, by rw [dl1, dl2]⟩, ?_⟩, ?_⟩
    · refine all_drop ?_ _
      rw [List.all_append, a3, hp1]; rfl
    · refine all_drop ?_ _
      rw [List.all_append, a5, hq1]; rfl
    · rw [g1]; omega
  refine ⟨ok1, ?_⟩
  intro rs' ls' g' t hR
  unfold putR at hR
  rw [if_pos ok1, e1, t1] at hR
  simp only [Prod.mk.injEq, true_and, and_true] at hR
  obtain ⟨rfl, rfl, rfl, rfl⟩ := hR
  have m1 : (rs ++ p.take k).drop (rs.length + k - M) ++ p.drop k = (rs ++ p).drop (rs.length + k - M) := by rw [hsplit1, List.drop_append_of_le_length (l₁ := rs ++ p.take k) (by omega)]
  have m2 : (ls ++ q.take k).drop (rs.length + k - M) ++ q.drop k = (ls ++ q).drop (rs.length + k - M) := by rw [hsplit2, List.drop_append_of_le_length (l₁ := ls ++ q.take k) (by omega)]
  have e2 : over (M : Int) ((rs ++ p).drop (rs.length + k - M)) = rs.length + p.length - (rs.length + k - M) - M := by rw [over_eq _ _ (by omega)]; simp
  have e3 : (rs.length + k - M) + (rs.length + p.length - (rs.length + k - M) - M) = rs.length + p.length - M := by omega
  have hgs : addAll (addAll g ((ls ++ q).take (rs.length + k - M))) (((ls ++ q).drop (rs.length + k - M)).take (rs.length + p.length - (rs.length + k - M) - M)) = addAll g ((ls ++ q).take (rs.length + p.length - M)) := by
    rw [← addAll_app, s1]
    congr 3
    omega
  have ok2 : putOk (M : Int) ((rs ++ p.take k).drop (rs.length + k - M)) ((ls ++ q.take k).drop (rs.length + k - M)) (addAll g ((ls ++ q).take (rs.length + k - M))) (p.drop k) (q.drop k) = true := by
    have hb1 := ok1
    unfold putOk at hb1
    rw [e1, t1] at hb1
    simp only [Bool.and_eq_true] at hb1
    unfold putOk
    rw [m1, m2, e2, hb1.2, all_drop h4, all_drop h5, hgs, List.drop_drop, List.drop_drop, e3]
    rw [e0] at hb6
    rw [hb6]
    simp only [Bool.true_and, Bool.and_true, Bool.and_eq_true, decide_eq_true_eq]
    exact ⟨by simp; omega, by simp; omega⟩
  refine ⟨ok2, ?_, ?_⟩
  · unfold putR
    rw [if_pos ok2, if_pos hall, m1, m2, e2, e0, hgs, List.drop_drop, List.drop_drop, e3]
  · unfold putR
    rw [if_pos ok2, if_pos hall, m1, e2, e0]
    show _ ++ _ = _
    rw [hsplit1, ← List.take_append_of_le_length (l₁ := rs ++ p.take k) (l₂ := p.drop k) (by omega)]
    rw [← List.take_add, e3]
theorem p_takeS (a b c : Int) (d : ByteArray) (e : Bool) (m : Int) (rs ls : List Int) (g : Int) (n : Nat) (hn : n ≤ rs.length) (hl : n ≤ ls.length) (h1 : rs.length ≤ big) (h2 : ls.length ≤ big) : z1m.f a b c d m rs ls g e n = some (rs.take n, rs.drop n, ls.drop n, addAll g (ls.take n)) := by
  unfold z1m.f z1l.f
  rw [cut0 hn, cut0 hl, cutE hn, cutE hl]
  simp only [Option.bind_some]
  rw [p_clone _ (by simp; omega), p_bytes _ (by simp; omega), p_clone _ (by simp; omega), p_clone _ (by simp; omega)]
  rfl
theorem p_putS (a b c : Int) (d : ByteArray) (e : Bool) (m : Int) (rs ls : List Int) (g : Int) (p q : List Int) (h0 : 0 ≤ m) (hm : m ≤ 1000) (h1 : rs.length + p.length ≤ big) (h2 : rs.length = ls.length) (h3 : p.length = q.length) :
    z1n.f a b c d m rs ls g e p q = some ((rs ++ p).take (over m (rs ++ p)), okBuf m ((rs ++ p).drop (over m (rs ++ p))) ((ls ++ q).drop (over m (rs ++ p))) (addAll g ((ls ++ q).take (over m (rs ++ p)))), (rs ++ p).drop (over m (rs ++ p)), (ls ++ q).drop (over m (rs ++ p)), addAll g ((ls ++ q).take (over m (rs ++ p)))) := by
  have hw : IntKind.i64.wrap (((rs ++ p).length : Int) - m) = ((rs ++ p).length : Int) - m := by
    unfold big at h1
    exact y08 (by simp; omega) (by simp; omega)
  have hk : max 0 (((rs ++ p).length : Int) - m) = ((over m (rs ++ p) : Nat) : Int) := by unfold over; omega
  have hk1 : over m (rs ++ p) ≤ (rs ++ p).length := by unfold over; omega
  have hk2 : over m (rs ++ p) ≤ (ls ++ q).length := by rw [List.length_append, ← h2, ← h3, ← List.length_append]; exact hk1
  have b1 : (rs ++ p).length ≤ big := by simpa using h1
  have b2 : (ls ++ q).length ≤ big := by simp; omega
  unfold z1n.f
  rw [p_concat rs p h1, p_concat ls q (by omega)]
  simp only [Option.bind_some]
  rw [hw, hk, p_takeS _ _ _ _ _ m _ _ g _ hk1 hk2 b1 b2]
  simp only [Option.bind_some]
  rw [p_implBuf _ _ _ _ (by rw [List.length_drop]; omega) (by rw [List.length_drop]; omega)]
  rfl
theorem p_l10PutS (m : Int) (rs ls : List Int) (g : Int) (p q : List Int) (h0 : 0 ≤ m) (hm : m ≤ 1000) (h1 : rs.length + p.length ≤ big) (h2 : rs.length = ls.length) (h3 : p.length = q.length) :
    z03.f m rs ls g p q = some (m, (rs ++ p).drop (over m (rs ++ p)), (ls ++ q).drop (over m (rs ++ p)), addAll g ((ls ++ q).take (over m (rs ++ p))), (rs ++ p).take (over m (rs ++ p))) := by
  have hw : IntKind.i64.wrap (((rs ++ p).length : Int) - m) = ((rs ++ p).length : Int) - m := by
    unfold big at h1
    exact y08 (by simp; omega) (by simp; omega)
  have hk : max 0 (((rs ++ p).length : Int) - m) = ((over m (rs ++ p) : Nat) : Int) := by unfold over; omega
  have hk1 : over m (rs ++ p) ≤ (rs ++ p).length := by unfold over; omega
  have hk2 : over m (rs ++ p) ≤ (ls ++ q).length := by rw [List.length_append, ← h2, ← h3, ← List.length_append]; exact hk1
  have b1 : (rs ++ p).length ≤ big := by simpa using h1
  have b2 : (ls ++ q).length ≤ big := by simp; omega
  unfold z03.f
  rw [p_own rs (by omega), p_own ls (by omega)]
  have a1 : app? 17592186044416 rs p = some (rs ++ p) := app?_at (by unfold big at h1; omega)
  have a2 : app? 17592186044416 ls q = some (ls ++ q) := app?_at (by unfold big at h1; omega)
  simp only [Option.bind_some, a1, a2, p_most]
  rw [hw, hk, p_drop m _ _ g _ hk1 hk2 b1 b2]
  rfl
theorem p_PutBufS (m : Int) (rs ls : List Int) (g : Int) (p q : List Int) (hr : rs.length ≤ big) (hl : ls.length ≤ big) (hp : p.length ≤ big) (hq : q.length ≤ big) : z04.f m rs ls g p q = some (putR m rs ls g p q) := by
  unfold z04.f putR putOk
  have e : (q.all fun u => decide (1 ≤ u) && decide (u ≤ 1000)) = q.all okLong := rfl
  simp only [p_specBuf m rs ls g hr hl, Option.bind_some, p_allRunes p hp, p_l1All q 1 1000 hq, e]
  cases hs : okBuf m rs ls g with
  | false => rfl
  | true =>
    simp only [Bool.not_true, Bool.false_eq_true, if_false, Bool.true_and]
    by_cases h1 : p.length = q.length
    · have n3 : ((q.length : Int) != (p.length : Int)) = false := by simp [h1]
      have d1 : decide (p.length = q.length) = true := by simpa using h1
      by_cases h2 : p.length ≤ 1000
      · have d3 : decide (p.length ≤ 1000) = true := by simpa using h2
        cases h3 : q.all okLong with
        | false =>
          simp only [n3, Bool.false_eq_true, if_false, Bool.not_false, Option.bind_some, if_true, Bool.and_false, Bool.false_and]
          split <;> rfl
        | true =>
          simp only [n3, Bool.false_eq_true, if_false, Bool.not_true, Option.bind_some, if_true]
          simp only [okBuf, Bool.and_eq_true, decide_eq_true_eq, beq_iff_eq] at hs
          have hrs : rs.length ≤ 60 := by omega
          have g2 := p_l10PutS m rs ls g p q (by omega) (by omega) (by unfold big; omega) (by omega) h1
          rw [d3, d1, Bool.and_true, Bool.true_and]
          have L1 : ((rs ++ p).drop (over m (rs ++ p))).length ≤ 2000 := by simp; omega
          have L2 : ((ls ++ q).drop (over m (rs ++ p))).length ≤ 2000 := by simp; omega
          cases h4 : p.all okRune with
          | false => rfl
          | true =>
            simp only [Bool.not_true, Bool.false_eq_true, if_false, Option.bind_some]
            rw [g2]
            simp only [Option.bind_some]
            rw [p_specBuf _ _ _ _ (by unfold big; omega) (by unfold big; omega)]
            simp only [Option.bind_some]
            cases okBuf m ((rs ++ p).drop (over m (rs ++ p))) ((ls ++ q).drop (over m (rs ++ p))) (addAll g ((ls ++ q).take (over m (rs ++ p)))) <;> first | rfl | trivial
      · have d3 : decide (p.length ≤ 1000) = false := by simpa using h2
        simp [d3]
    · have n3 : ((q.length : Int) != (p.length : Int)) = true := by simp; omega
      have d1 : decide (p.length = q.length) = false := by simpa using h1
      rw [n3, d1]
      split <;> rfl
def marks (k : Int) (n : Nat) : List Int := (List.range n).map fun i : Nat => k + i
theorem marks_len (k : Int) (n : Nat) : (marks k n).length = n := by simp [marks]
theorem marks_get (k : Int) (n i : Nat) (h : i < n) : (marks k n)[i]? = some (k + i) := by simp [marks, h]
def w_Buf (u : (Int) × (List (Int)) × (List (Int)) × (Int)) : Int := (wL wZ) u.2.1 + (wL wZ) u.2.2.1
def okw_Buf (u : (Int) × (List (Int)) × (List (Int)) × (Int)) : Prop := (okL okZ) u.2.1 ∧ (okL okZ) u.2.2.1
theorem w_Buf_pos (u : (Int) × (List (Int)) × (List (Int)) × (Int)) : 0 ≤ w_Buf u := by
  unfold w_Buf
  have := (wL_pos wZ_pos) u.2.1
  have := (wL_pos wZ_pos) u.2.2.1
  omega
def w_Decoder (u : (Int) × (Int) × (Int) × (ByteArray)) : Int := wStr u.2.2.2
def okw_Decoder (u : (Int) × (Int) × (Int) × (ByteArray)) : Prop := okStr u.2.2.2
theorem w_Decoder_pos (u : (Int) × (Int) × (Int) × (ByteArray)) : 0 ≤ w_Decoder u := by
  unfold w_Decoder
  have := wStr_pos u.2.2.2
  omega
theorem p_EndSession (en sh lo : Int) (hd : ByteArray) (mx : Int) (rs ls : List Int) (go : Int) (eof : Bool) (hr : rs.length ≤ big) (hl : ls.length ≤ big) : ∃ r : Int × Int × Int × ByteArray × Int × List Int × List Int × Int × Bool × List Int × Bool, z1y.f en sh lo hd mx rs ls go eof = some r ∧ z0j.f en sh lo hd mx rs ls go eof = some r ∧ r.2.2.2.2.2.1.length ≤ 5000 ∧ r.2.2.2.2.2.2.1.length ≤ 5000 ∧ r.2.2.2.2.2.2.2.2.2.1.length ≤ 5000 := by
  unfold z1y.f z0j.f
  simp only [p_implSess en sh lo hd mx rs ls go eof hr hl, p_specSess en sh lo hd mx rs ls go eof hr hl, Option.bind_some]
  cases hs : okSess en sh lo (y9 hd) mx rs ls go eof with
  | false => exact ⟨(0, 0, 0, ⟨#[]⟩, 0, [], [], 0, false, [], false), rfl, rfl, by simp, by simp, by simp⟩
  | true =>
    simp only [Bool.not_true, Bool.false_eq_true, if_false, Option.bind_some]
    cases eof with
    | true => exact ⟨(0, 0, 0, ⟨#[]⟩, 0, [], [], 0, false, [], false), rfl, rfl, by simp, by simp, by simp⟩
    | false =>
      simp only [Bool.false_eq_true, if_false]
      simp only [okSess, Bool.and_eq_true] at hs
      obtain ⟨⟨hd1, hb1⟩, _⟩ := hs
      have hlen := okDec_len hd1
      have hsz := size_bytes hd
      have hb2 := hb1
      simp only [okBuf, Bool.and_eq_true, decide_eq_true_eq, beq_iff_eq] at hb2
      have hrs : rs.length ≤ 60 := by omega
      obtain ⟨ps, qs, i1, i2, i3, i4, i5, i6⟩ := p_flushL en (if en = 2 ∨ en = 3 then 2 else 1) rfl (hd.size + 2) hd [] [] (by omega) (by simp; omega) rfl rfl rfl
      simp only [List.length_nil] at i3
      have hu : ((z0q.f en).bind fun u11 => if u11 = true then (some (2 : Int)) else (some 1)) = some (if en = 2 ∨ en = 3 then 2 else 1) := by
        rw [(p_units en).1]
        by_cases h : en = 2 ∨ en = 3 <;> simp [h]
      have P := p_putS en sh lo (⟨#[]⟩ : ByteArray) true mx rs ls go ps qs (by omega) (by omega) (by unfold big; omega) (by omega) i4
      unfold z17.f z16.f z1x.f z1w.f z0i.f z05.f
      rw [p_clone rs hr, p_clone ls hl]
      simp only [Option.bind_some]
      rw [hu]
      simp only [Option.bind_some]
      rw [i1, i2]
      simp only [Option.bind_some]
      rw [P, p_PutBufS mx rs ls go ps qs hr hl (by unfold big; omega) (by unfold big; omega)]
      simp only [Option.bind_some]
      have hput : putOk mx rs ls go ps qs = okBuf mx ((rs ++ ps).drop (over mx (rs ++ ps))) ((ls ++ qs).drop (over mx (rs ++ ps))) (addAll go ((ls ++ qs).take (over mx (rs ++ ps)))) := by
        unfold putOk
        have d1 : decide (ps.length = qs.length) = true := by simpa using i4
        have d2 : decide (ps.length ≤ 1000) = true := by rw [decide_eq_true_eq]; omega
        rw [hb1, d1, d2, i5, i6]
        simp
      unfold putR
      rw [hput]
      have L1 : ((rs ++ ps).drop (over mx (rs ++ ps))).length ≤ 2000 := by simp; omega
      have L2 : ((ls ++ qs).drop (over mx (rs ++ ps))).length ≤ 2000 := by simp; omega
      have L3 : ((rs ++ ps).take (over mx (rs ++ ps))).length ≤ 2000 := by simp; omega
      cases hok : okBuf mx ((rs ++ ps).drop (over mx (rs ++ ps))) ((ls ++ qs).drop (over mx (rs ++ ps))) (addAll go ((ls ++ qs).take (over mx (rs ++ ps)))) with
      | false => exact ⟨(0, 0, 0, ⟨#[]⟩, 0, [], [], 0, false, [], false), rfl, rfl, by simp, by simp, by simp⟩
      | true =>
        simp only [if_true, Bool.not_true, Bool.false_eq_true, if_false]
        rw [p_specSess en sh lo ⟨#[]⟩ mx _ _ _ true (by unfold big; omega) (by unfold big; omega)]
        have ok2 : okSess en sh lo (y9 (⟨#[]⟩ : ByteArray)) mx ((rs ++ ps).drop (over mx (rs ++ ps))) ((ls ++ qs).drop (over mx (rs ++ ps))) (addAll go ((ls ++ qs).take (over mx (rs ++ ps)))) true = true := by
          unfold okSess
          rw [bytes_nil, okDec_nil hd1, hok]
          rfl
        rw [ok2]
        exact ⟨_, rfl, rfl, Nat.le_trans L1 (by decide), Nat.le_trans L2 (by decide), Nat.le_trans L3 (by decide)⟩
theorem p_areLongs (p : List Int) (hp : p.length ≤ big) : z1i.f p = some (p.all okLong) := by
  unfold z1i.f z1h.f z1g.f
  have key : ∀ (k i : Nat), i ≤ p.length → p.length - i < k → ∃ o, z1g.l1 p k i = some o ∧ ((o = .go () ∧ (p.drop i).all okLong = true) ∨ (∃ j : Int, o = .ret j ∧ 0 ≤ j ∧ (p.drop i).all okLong = false)) := by
    intro k
    induction k with
    | zero => intro i h1 h2; omega
    | succ k ih =>
      intro i h1 h2
      rw [z1g.l1]
      by_cases h : i < p.length
      · rw [if_pos (by rw [decide_eq_true_eq]; omega), rd?_at h, List.drop_eq_getElem_cons h]
        unfold z1f.f
        simp only [Option.bind_some, p_inRange, List.all_cons]
        have e : (decide ((1 : Int) ≤ p[i]) && decide (p[i] ≤ 1000)) = okLong p[i] := rfl
        rw [e]
        cases hk : okLong p[i] with
        | false => exact ⟨_, rfl, .inr ⟨i, rfl, by omega, rfl⟩⟩
        | true =>
          obtain ⟨o, o1, o2⟩ := ih (i + 1) (by omega) (by omega)
          refine ⟨o, ?_, by simpa using o2⟩
          unfold big at hp
          simp only [Bool.not_true, Bool.false_eq_true, if_false, wrapN i (by omega)]
          exact o1
      · rw [if_neg (by rw [decide_eq_true_eq]; omega), List.drop_eq_nil_of_le (by omega)]
        exact ⟨_, rfl, .inl ⟨rfl, rfl⟩⟩
  obtain ⟨o, o1, o2⟩ := key (((p.length : Int) - 0).toNat + 2) 0 (by omega) (by omega)
  rw [show ((0 : Nat) : Int) = 0 from rfl] at o1
  rw [o1]
  rw [List.drop_zero] at o2
  rcases o2 with ⟨rfl, h⟩ | ⟨j, rfl, hj, h⟩
  · rw [h]; rfl
  · rw [h]
    have : ¬ j < 0 := by omega
    simp [hj]
/-- Whether a session takes bytes: what comes of them, put into its buffer. -/
def fedOk (en sh lo : Int) (H : List Int) (m : Int) (rs ls : List Int) (g : Int) (eof : Bool) (B : List Int) : Bool :=
  okSess en sh lo H m rs ls g eof && !eof && decide ((feedD en sh lo H B).2.1 ≤ 1000) && putOk m rs ls g (feedD en sh lo H B).2.2.2.1 (feedD en sh lo H B).2.2.2.2
theorem feedS4 : ∀ L : List Int, (feedS 4 0 0 L).1 = 0 ∧ (feedS 4 0 0 L).2.1 = 0 := by
  intro L
  induction L with
  | nil => exact ⟨rfl, rfl⟩
  | cons b L ih =>
    rw [feedS, if_neg (by simp)]
    exact ih
theorem feedD_ok (en sh lo : Int) (H B : List Int) (hok : okDec en sh lo H = true) (hH : ∀ u ∈ H, 0 ≤ u ∧ u < 256) (hB : ∀ u ∈ B, 0 ≤ u ∧ u < 256) : (feedD en sh lo H B).2.2.2.1.length ≤ H.length + B.length ∧ (feedD en sh lo H B).2.2.2.2.length = (feedD en sh lo H B).2.2.2.1.length ∧ (feedD en sh lo H B).2.2.2.1.all okRune = true ∧ okDec en (feedD en sh lo H B).1 (feedD en sh lo H B).2.1 (feedD en sh lo H B).2.2.1 = decide ((feedD en sh lo H B).2.1 ≤ 1000) ∧ 0 ≤ (feedD en sh lo H B).2.1 ∧ (feedD en sh lo H B).2.1 ≤ lo + B.length := by
  obtain ⟨c1, c2, c3, c4, c5, c6, c7⟩ := okDec_cases hok
  unfold feedD
  by_cases h : en = 4 ∨ en = 5
  · rw [if_pos h]
    obtain ⟨i1, i2, i3, i4, i5, i6⟩ := feedS_len en B sh lo hB c3 c4
    refine ⟨by simp only; omega, i2, i3, ?_, i5, i6⟩
    have hH0 := c7 h
    subst hH0
    rcases h with rfl | rfl
    · obtain ⟨rfl, rfl⟩ := c6 (by decide)
      simp only [(feedS4 B).1, (feedS4 B).2]
      decide
    · unfold okDec
      generalize (feedS 5 sh lo B).1 = x at *
      generalize (feedS 5 sh lo B).2.1 = y at *
      rcases i4 with rfl | rfl <;> simp [i5]
  · rw [if_neg h]
    have hHB : ∀ u ∈ H ++ B, 0 ≤ u ∧ u < 256 := fun u hu => (List.mem_append.1 hu).elim (hH u) (hB u)
    have hl : (H ++ B).length = H.length + B.length := List.length_append
    obtain ⟨i1, i2, i3, i4⟩ := feedU_len en (H.length + B.length) (H ++ B) hHB
    have := feedU_held en sh lo (by omega) (okDec_nil hok) (H.length + B.length) (H ++ B) hHB (by omega)
    refine ⟨by simp only; omega, i2, i3, ?_, c4, by simp only; omega⟩
    simp only
    rw [this]
    symm
    simpa using c5
theorem p_FeedBoth (en sh lo : Int) (hd : ByteArray) (m : Int) (rs ls : List Int) (g : Int) (eof : Bool) (p : ByteArray) (hr : rs.length ≤ big) (hl : ls.length ≤ big) (hp : p.size ≤ 997) :
    (fedOk en sh lo (y9 hd) m rs ls g eof (y9 p) = false → z1p.f en sh lo hd m rs ls g eof p = some (0, 0, 0, ⟨#[]⟩, 0, [], [], 0, false, [], false) ∧ z06.f en sh lo hd m rs ls g eof p = some (0, 0, 0, ⟨#[]⟩, 0, [], [], 0, false, [], false)) ∧
    (fedOk en sh lo (y9 hd) m rs ls g eof (y9 p) = true → ∃ T, y9 T = (feedD en sh lo (y9 hd) (y9 p)).2.2.1 ∧
      z1p.f en sh lo hd m rs ls g eof p = some (en, (feedD en sh lo (y9 hd) (y9 p)).1, (feedD en sh lo (y9 hd) (y9 p)).2.1, T, m, (putR m rs ls g (feedD en sh lo (y9 hd) (y9 p)).2.2.2.1 (feedD en sh lo (y9 hd) (y9 p)).2.2.2.2).2.1, (putR m rs ls g (feedD en sh lo (y9 hd) (y9 p)).2.2.2.1 (feedD en sh lo (y9 hd) (y9 p)).2.2.2.2).2.2.1, (putR m rs ls g (feedD en sh lo (y9 hd) (y9 p)).2.2.2.1 (feedD en sh lo (y9 hd) (y9 p)).2.2.2.2).2.2.2.1, false, (putR m rs ls g (feedD en sh lo (y9 hd) (y9 p)).2.2.2.1 (feedD en sh lo (y9 hd) (y9 p)).2.2.2.2).2.2.2.2.1, true) ∧
      z06.f en sh lo hd m rs ls g eof p = z1p.f en sh lo hd m rs ls g eof p) := by
  unfold z1p.f z06.f
  simp only [p_implSess en sh lo hd m rs ls g eof hr hl, p_specSess en sh lo hd m rs ls g eof hr hl, Option.bind_some]
  cases hs : okSess en sh lo (y9 hd) m rs ls g eof with
  | false =>
    refine ⟨fun _ => ⟨rfl, rfl⟩, fun h => ?_⟩
    unfold fedOk at h
    rw [hs] at h
    cases h
  | true =>
    cases eof with
    | true =>
      refine ⟨fun _ => ⟨rfl, rfl⟩, fun h => ?_⟩
      unfold fedOk at h
      rw [hs] at h
      cases h
    | false =>
      have hs0 := hs
      simp only [okSess, Bool.and_eq_true] at hs
      obtain ⟨⟨hd1, hb1⟩, _⟩ := hs
      have hlen := okDec_len hd1
      have hsz := size_bytes hd
      have hsp := size_bytes p
      have hb2 := hb1
      simp only [okBuf, Bool.and_eq_true, decide_eq_true_eq, beq_iff_eq] at hb2
      have hrs : rs.length ≤ 60 := by omega
      obtain ⟨T1, e1, b1⟩ := p_implFeed en sh lo hd p m rs ls g false hd1 (by omega)
      obtain ⟨T2, e2, b2⟩ := p_specFeed en sh lo hd p hd1 (by omega)
      have eT : T1 = T2 := bytesB_inj (b1.trans b2.symm)
      subst eT
      obtain ⟨f1, f2, f3, f4, f5, f6⟩ := feedD_ok en sh lo (y9 hd) (y9 p) hd1 (bytes_rng hd) (bytes_rng p)
      have hfo : fedOk en sh lo (y9 hd) m rs ls g false (y9 p) = (decide ((feedD en sh lo (y9 hd) (y9 p)).2.1 ≤ 1000) && putOk m rs ls g (feedD en sh lo (y9 hd) (y9 p)).2.2.2.1 (feedD en sh lo (y9 hd) (y9 p)).2.2.2.2) := by
        unfold fedOk
        rw [hs0]
        simp
      rw [hfo]
      generalize feedD en sh lo (y9 hd) (y9 p) = F at *
      obtain ⟨sh', lo', H', ps, qs⟩ := F
      simp only at *
      have hps : ps.length ≤ 1000 := by omega
      have P := p_putS en sh' lo' T1 false m rs ls g ps qs (by omega) (by omega) (by unfold big; omega) (by omega) f2.symm
      have PS := p_PutBufS m rs ls g ps qs hr hl (by unfold big; omega) (by unfold big; omega)
      have AL := p_areLongs qs (by unfold big; omega)
      unfold z17.f z16.f z1o.f zz.f zu.f z05.f
      rw [p_clone rs hr, p_clone ls hl, p_specDec en sh lo hd, hd1]
      have d1 : decide ((p.size : Int) > 1000) = false := by rw [decide_eq_false_iff_not]; omega
      have d2 : decide ((p.size : Int) ≤ 1000) = true := by rw [decide_eq_true_eq]; omega
      simp only [Option.bind_some, d1, d2, Bool.not_true, Bool.false_eq_true, if_false]
      rw [e1, e2]
      simp only [Option.bind_some]
      rw [p_specDec en sh' lo' T1, b1, f4, AL]
      by_cases c : lo' ≤ 1000
      case neg =>
        have c1 : decide (lo' ≤ 1000) = false := by simpa using c
        have c2 : decide (lo' > 1000) = true := by simp; omega
        rw [c1, c2]
        simp
      have c1 : decide (lo' ≤ 1000) = true := by simpa using c
      have c2 : decide (lo' > 1000) = false := by simp; omega
      rw [c1, c2]
      simp only [Option.bind_some, Bool.not_true, Bool.false_eq_true, if_false, Bool.true_and]
      rw [PS]
      have hput : putOk m rs ls g ps qs = (qs.all okLong && okBuf m ((rs ++ ps).drop (over m (rs ++ ps))) ((ls ++ qs).drop (over m (rs ++ ps))) (addAll g ((ls ++ qs).take (over m (rs ++ ps))))) := by
        unfold putOk
        have d1 : decide (ps.length = qs.length) = true := by simpa using f2.symm
        have d2 : decide (ps.length ≤ 1000) = true := by simpa using hps
        rw [hb1, d1, d2, f3]
        simp
      cases hq : qs.all okLong with
      | false =>
        have hz : putOk m rs ls g ps qs = false := by rw [hput, hq]; rfl
        have hpr : putR m rs ls g ps qs = (0, [], [], 0, [], false) := by unfold putR; rw [hz]; rfl
        rw [hpr, hz]
        simp
      | true =>
        rw [hq, Bool.true_and] at hput
        simp only [Bool.not_true, Option.bind_some, Bool.false_eq_true, if_false]
        rw [P]
        cases hz : putOk m rs ls g ps qs with
        | false =>
          have hpr : putR m rs ls g ps qs = (0, [], [], 0, [], false) := by unfold putR; rw [hz]; rfl
          rw [hpr, ← hput, hz]
          simp
        | true =>
          rw [← hput, hz]
          have hpr : putR m rs ls g ps qs = (m, (rs ++ ps).drop (over m (rs ++ ps)), (ls ++ qs).drop (over m (rs ++ ps)), addAll g ((ls ++ qs).take (over m (rs ++ ps))), (rs ++ ps).take (over m (rs ++ ps)), true) := by unfold putR; rw [hz]; rfl
          rw [hpr]
          have L1 : ((rs ++ ps).drop (over m (rs ++ ps))).length ≤ 2000 := by simp; omega
          have L2 : ((ls ++ qs).drop (over m (rs ++ ps))).length ≤ 2000 := by simp; omega
          have ok2 : okSess en sh' lo' (y9 T1) m ((rs ++ ps).drop (over m (rs ++ ps))) ((ls ++ qs).drop (over m (rs ++ ps))) (addAll g ((ls ++ qs).take (over m (rs ++ ps)))) false = true := by
            unfold okSess
            rw [b1, f4, c1, ← hput, hz]
            rfl
          refine ⟨fun h => (by cases h), fun _ => ⟨T1, b1, ?_, ?_⟩⟩
          · simp
          · simp only [Option.bind_some, Bool.not_true, Bool.false_eq_true, if_false]
            rw [p_specSess en sh' lo' T1 m _ _ _ false (by unfold big; omega) (by unfold big; omega), ok2]
            simp
theorem t_simple {code : List Int} (hc : allW (inK .u8) code) {a s en : Int} (h0 : 0 ≤ a) (h1 : a ≤ 1000000000) : Tt (z0h.f code a s en) fun r => r.1.size ≤ 60 ∧ a ≤ r.2.1 ∧ r.2.1 ≤ a + 300 := by
  unfold z0h.f
  refine (t_one hc h0 (by omega)).bind fun x hx => Tt.ite (fun _ => ?_) (fun _ => ?_)
  · exact (t_coded hc (by omega) (by omega)).bind fun y hy => .one ⟨by dsimp only; omega, by dsimp only; omega, by dsimp only; omega⟩
  refine (t_pick hc (by omega) (by omega)).bind fun y hy => ?_
  have key : ∀ (n f : Nat) (l : List Int) (a s : Int), n < f → 0 ≤ a → a + 10 * n ≤ 1000000000000 → l.length + n ≤ 100000 → Tt (z0h.l1 code f l (n : Int) a s) fun r => r.1.length = l.length + n ∧ a ≤ r.2.1 ∧ r.2.1 ≤ a + 10 * n := by
    intro n
    induction n with
    | zero =>
      intro f l a s hf ha ha2 hl
      obtain ⟨f, rfl⟩ := Nat.exists_eq_succ_of_ne_zero (show f ≠ 0 by omega)
      rw [z0h.l1, if_neg (by simp)]
      exact .one ⟨by dsimp only; omega, by dsimp only; omega, by dsimp only; omega⟩
    | succ n ih =>
      intro f l a s hf ha ha2 hl
      obtain ⟨f, rfl⟩ := Nat.exists_eq_succ_of_ne_zero (show f ≠ 0 by omega)
      rw [z0h.l1, if_pos (by simp <;> omega)]
      refine (t_among hc (by decide) ha (by omega)).bind fun x hx => ?_
      refine (Tt.app (by simp; omega)).bind fun y hy => ?_
      subst hy
      rw [y08 (by omega) (by omega), show ((n + 1 : Nat) : Int) - 1 = (n : Int) by omega]
      exact (ih f _ _ _ (by omega) (by omega) (by omega) (by simp; omega)).mono fun r hr => ⟨by rw [hr.1]; simp; omega, by omega, by omega⟩
  obtain ⟨n, b1, s1⟩ := y
  dsimp only at *
  obtain ⟨n, rfl⟩ := Int.eq_ofNat_of_zero_le hy.1
  have hn := hy.2.1 (by decide)
  refine (key n _ [] b1 s1 (by omega) (by omega) (by omega) (by simp; omega)).bind fun o ho => ?_
  obtain ⟨l, a2, s2⟩ := o
  dsimp only at *
  rw [List.length_nil] at ho
  exact (t_Encode en l (by omega)).bind fun e he => .one ⟨by dsimp only; omega, by dsimp only; omega, by dsimp only; omega⟩
theorem t_Feed (en sh lo : Int) (hd : ByteArray) (m : Int) (rs ls : List Int) (g : Int) (eof : Bool) (p : ByteArray) (hr : rs.length ≤ 5000) (hl : ls.length ≤ 5000) (hp : p.size ≤ 900) : Tt (z06.f en sh lo hd m rs ls g eof p) fun r => r.2.2.2.2.2.1.length ≤ 5000 ∧ r.2.2.2.2.2.2.1.length ≤ 5000 := by
  obtain ⟨h1, h2⟩ := p_FeedBoth en sh lo hd m rs ls g eof p (by unfold big; omega) (by unfold big; omega) (by omega)
  cases h : fedOk en sh lo (y9 hd) m rs ls g eof (y9 p) with
  | false => exact ⟨_, (h1 h).2, by simp⟩
  | true =>
    obtain ⟨T, _, e1, e2⟩ := h2 h
    refine ⟨_, e2.trans e1, ?_⟩
    have hs : okSess en sh lo (y9 hd) m rs ls g eof = true := by
      unfold fedOk at h
      simp only [Bool.and_eq_true] at h
      exact h.1.1.1
    simp only [okSess, Bool.and_eq_true] at hs
    have hH := okDec_len hs.1.1
    have hB := size_bytes p
    obtain ⟨f1, f2, _⟩ := feedD_ok en sh lo (y9 hd) (y9 p) hs.1.1 (bytes_rng hd) (bytes_rng p)
    have hb := hs.1.2
    simp only [okBuf, Bool.and_eq_true, decide_eq_true_eq, beq_iff_eq] at hb
    dsimp only
    unfold putR
    split
    · simp; omega
    · simp
theorem t_End (en sh lo : Int) (hd : ByteArray) (m : Int) (rs ls : List Int) (g : Int) (eof : Bool) (hr : rs.length ≤ 5000) (hl : ls.length ≤ 5000) : Tt (z0j.f en sh lo hd m rs ls g eof) fun r => r.2.2.2.2.2.1.length ≤ 5000 ∧ r.2.2.2.2.2.2.1.length ≤ 5000 := by
  obtain ⟨r, _, e, b1, b2, _⟩ := p_EndSession en sh lo hd m rs ls g eof (by unfold big; omega) (by unfold big; omega)
  exact ⟨r, e, b1, b2⟩
theorem t_New (en m : Int) : Tt (zt.f en m) fun r => r.2.2.2.2.2.1.length ≤ 5000 ∧ r.2.2.2.2.2.2.1.length ≤ 5000 := by
  unfold zt.f
  rw [p_specSess en 0 0 _ m [] [] 0 false (by decide) (by decide)]
  exact (Tt.one (Φ := fun _ => True) trivial).bind fun _ _ => Tt.ite (fun _ => .one ⟨by simp, by simp⟩) (fun _ => .one ⟨by simp, by simp⟩)
theorem t_session {code : List Int} (hc : allW (inK .u8) code) {a s : Int} (h0 : 0 ≤ a) (h1 : a ≤ 10000000) : Tt (z0k.f code a s) fun r => r.2.2.2.2.2.1.length ≤ 5000 ∧ r.2.2.2.2.2.2.1.length ≤ 5000 ∧ a ≤ r.2.2.2.2.2.2.2.2.2.1 ∧ r.2.2.2.2.2.2.2.2.2.1 ≤ a + 2000 := by
  unfold z0k.f
  refine (t_pick hc h0 (by omega)).bind fun x hx => (t_among hc (by decide) (by omega) (by omega)).bind fun y hy => (t_New _ _).bind fun z hz => (t_pick hc (by omega) (by omega)).bind fun w hw => ?_
  obtain ⟨n, b1, s1⟩ := w
  obtain ⟨z1, z2, z3, z4, z5, z6, z7, z8, z9, z10⟩ := z
  dsimp only at *
  obtain ⟨n, rfl⟩ := Int.eq_ofNat_of_zero_le hw.1
  have hn := hw.2.1 (by decide)
  have key : ∀ (n f : Nat) (a s z1 z2 z3 : Int) (z4 : ByteArray) (z5 : Int) (z6 z7 : List Int) (z8 : Int) (z9 : Bool), n < f → 0 ≤ a → a + 400 * n ≤ 100000000 → z6.length ≤ 5000 → z7.length ≤ 5000 → Tt (z0k.l1 code f (n : Int) a s z1 z2 z3 z4 z5 z6 z7 z8 z9) fun r => r.2.2.2.2.2.2.2.1.length ≤ 5000 ∧ r.2.2.2.2.2.2.2.2.1.length ≤ 5000 ∧ a ≤ r.1 ∧ r.1 ≤ a + 400 * n := by
    intro n
    induction n with
    | zero =>
      intro f a s z1 z2 z3 z4 z5 z6 z7 z8 z9 hf ha ha2 h6 h7
      obtain ⟨f, rfl⟩ := Nat.exists_eq_succ_of_ne_zero (show f ≠ 0 by omega)
      rw [z0k.l1, if_neg (by simp)]
      exact .one ⟨h6, h7, by dsimp only; omega, by dsimp only; omega⟩
    | succ n ih =>
      intro f a s z1 z2 z3 z4 z5 z6 z7 z8 z9 hf ha ha2 h6 h7
      obtain ⟨f, rfl⟩ := Nat.exists_eq_succ_of_ne_zero (show f ≠ 0 by omega)
      rw [z0k.l1, if_pos (by simp <;> omega)]
      refine Tt.bind (Φ := fun r : Int × Int × Int × Int × Int × ByteArray × Int × (List (Int)) × (List (Int)) × Int × Bool => r.2.2.2.2.2.2.2.1.length ≤ 5000 ∧ r.2.2.2.2.2.2.2.2.1.length ≤ 5000 ∧ a ≤ r.1 ∧ r.1 ≤ a + 400) ?_ fun o ho => ?_
      · refine Tt.bind (Φ := fun r : Bool × Int × Int × Int × Int × Int × ByteArray × Int × (List (Int)) × (List (Int)) × Int × Bool => r.2.2.2.2.2.2.2.2.1.length ≤ 5000 ∧ r.2.2.2.2.2.2.2.2.2.1.length ≤ 5000 ∧ a ≤ r.2.1 ∧ r.2.1 ≤ a + 400) ?_ fun o ho => ?_
        · refine (t_simple hc ha (by omega)).bind fun x hx => (t_Feed z1 z2 z3 z4 z5 z6 z7 z8 z9 x.1 h6 h7 (by omega)).bind fun y hy => .one ⟨hy.1, hy.2, by dsimp only; omega, by dsimp only; omega⟩
        · obtain ⟨o0, o1, o2, o3, o4, o5, o6, o7, o8, o9, o10, o11⟩ := o
          dsimp only at *
          exact Tt.ite (fun _ => .one ho) (fun _ => .one ⟨h6, h7, ho.2.2⟩)
      · obtain ⟨o1, o2, o3, o4, o5, o6, o7, o8, o9, o10, o11⟩ := o
        dsimp only at *
        rw [y08 (by omega) (by omega), show ((n + 1 : Nat) : Int) - 1 = (n : Int) by omega]
        exact (ih f _ _ _ _ _ _ _ _ _ _ _ (by omega) (by omega) (by omega) ho.1 ho.2.1).mono fun r hr => ⟨hr.1, hr.2.1, by omega, by omega⟩
  refine (key n _ b1 s1 z1 z2 z3 z4 z5 z6 z7 z8 z9 (by omega) (by omega) (by omega) hz.1 hz.2).bind fun o ho => ?_
  obtain ⟨o1, o2, o3, o4, o5, o6, o7, o8, o9, o10, o11⟩ := o
  dsimp only at *
  refine Tt.bind (Φ := fun r : Int × Int × Int × Int × Int × ByteArray × Int × (List (Int)) × (List (Int)) × Int × Bool => r.2.2.2.2.2.2.2.1.length ≤ 5000 ∧ r.2.2.2.2.2.2.2.2.1.length ≤ 5000 ∧ a ≤ r.1 ∧ r.1 ≤ a + 1500) ?_ fun o ho => ?_
  · refine (t_End o3 o4 o5 o6 o7 o8 o9 o10 o11 ho.1 ho.2.1).bind fun e he => ?_
    refine Tt.bind (Φ := fun r : Bool × Int × Int => a ≤ r.2.1 ∧ r.2.1 ≤ a + 1500) (Tt.ite (fun _ => ?_) (fun _ => .one ⟨by dsimp only; omega, by dsimp only; omega⟩)) fun o ho2 => ?_
    · exact (t_one hc (by omega) (by omega)).bind fun y hy => .one ⟨by dsimp only; omega, by dsimp only; omega⟩
    · obtain ⟨b, a', s'⟩ := o
      dsimp only at *
      exact Tt.ite (fun _ => .one ⟨he.1, he.2, ho2⟩) (fun _ => .one ⟨ho.1, ho.2.1, ho2⟩)
  obtain ⟨o1, o2, o3, o4, o5, o6, o7, o8, o9, o10, o11⟩ := o
  dsimp only at *
  refine Tt.bind (Φ := fun r : ByteArray × Int × Int × Int => a ≤ r.2.2.1 ∧ r.2.2.1 ≤ a + 2000) ?_ fun o ho2 => ?_
  · refine (t_pick hc (by omega) (by omega)).bind fun x hx => Tt.ite (fun _ => .one ⟨by dsimp only; omega, by dsimp only; omega⟩) (fun _ => Tt.ite (fun _ => .one ⟨by dsimp only; omega, by dsimp only; omega⟩) (fun _ => .one ⟨by dsimp only; omega, by dsimp only; omega⟩))
  obtain ⟨q1, q2, q3, q4⟩ := o
  exact .one ⟨ho.1, ho.2.1, ho2⟩
theorem feedD_app (en sh lo : Int) (H A C : List Int) (hok : okDec en sh lo H = true) (hH : ∀ u ∈ H, 0 ≤ u ∧ u < 256) (hA : ∀ u ∈ A, 0 ≤ u ∧ u < 256) (hC : ∀ u ∈ C, 0 ≤ u ∧ u < 256) :
    feedD en sh lo H (A ++ C) = ((feedD en (feedD en sh lo H A).1 (feedD en sh lo H A).2.1 (feedD en sh lo H A).2.2.1 C).1, (feedD en (feedD en sh lo H A).1 (feedD en sh lo H A).2.1 (feedD en sh lo H A).2.2.1 C).2.1, (feedD en (feedD en sh lo H A).1 (feedD en sh lo H A).2.1 (feedD en sh lo H A).2.2.1 C).2.2.1,
      (feedD en sh lo H A).2.2.2.1 ++ (feedD en (feedD en sh lo H A).1 (feedD en sh lo H A).2.1 (feedD en sh lo H A).2.2.1 C).2.2.2.1, (feedD en sh lo H A).2.2.2.2 ++ (feedD en (feedD en sh lo H A).1 (feedD en sh lo H A).2.1 (feedD en sh lo H A).2.2.1 C).2.2.2.2) := by
  unfold feedD
  by_cases h : en = 4 ∨ en = 5
  · simp only [if_pos h, feedS_app]
  · simp only [if_neg h]
    have hHA : ∀ u ∈ H ++ A, 0 ≤ u ∧ u < 256 := fun u hu => (List.mem_append.1 hu).elim (hH u) (hA u)
    have := feedU_app en C hC (H.length + A.length) (H ++ A) hHA (by simp)
    rw [← List.append_assoc, List.length_append, ← Nat.add_assoc, this]
theorem feedD_lo (en sh lo : Int) (H B : List Int) (hlo : en ≠ 4 → en ≠ 5 → lo ≤ 1000) (h1 : (feedD en sh lo H B).2.1 ≤ 1000) (h2 : (feedD en sh lo H B).2.2.2.2.all okLong = true) : lo ≤ 1000 := by
  unfold feedD at h1 h2
  by_cases h : en = 4 ∨ en = 5
  · rw [if_pos h] at h1 h2
    exact feedS_lo en B sh lo h1 h2
  · exact hlo (fun c => h (.inl c)) (fun c => h (.inr c))
theorem fed_split (en sh lo : Int) (H : List Int) (m : Int) (rs ls : List Int) (g : Int) (eof : Bool) (A C : List Int) (hH : ∀ u ∈ H, 0 ≤ u ∧ u < 256) (hA : ∀ u ∈ A, 0 ≤ u ∧ u < 256) (hC : ∀ u ∈ C, 0 ≤ u ∧ u < 256) (h : fedOk en sh lo H m rs ls g eof (A ++ C) = true) :
    fedOk en sh lo H m rs ls g eof A = true ∧
    ∀ rs' ls' g' t, putR m rs ls g (feedD en sh lo H A).2.2.2.1 (feedD en sh lo H A).2.2.2.2 = (m, rs', ls', g', t, true) →
      fedOk en (feedD en sh lo H A).1 (feedD en sh lo H A).2.1 (feedD en sh lo H A).2.2.1 m rs' ls' g' false C = true ∧
      ∃ t', putR m rs' ls' g' (feedD en (feedD en sh lo H A).1 (feedD en sh lo H A).2.1 (feedD en sh lo H A).2.2.1 C).2.2.2.1 (feedD en (feedD en sh lo H A).1 (feedD en sh lo H A).2.1 (feedD en sh lo H A).2.2.1 C).2.2.2.2 =
        (m, (putR m rs ls g (feedD en sh lo H (A ++ C)).2.2.2.1 (feedD en sh lo H (A ++ C)).2.2.2.2).2.1, (putR m rs ls g (feedD en sh lo H (A ++ C)).2.2.2.1 (feedD en sh lo H (A ++ C)).2.2.2.2).2.2.1, (putR m rs ls g (feedD en sh lo H (A ++ C)).2.2.2.1 (feedD en sh lo H (A ++ C)).2.2.2.2).2.2.2.1, t', true) ∧
        t ++ t' = (putR m rs ls g (feedD en sh lo H (A ++ C)).2.2.2.1 (feedD en sh lo H (A ++ C)).2.2.2.2).2.2.2.2.1 := by
  unfold fedOk at h
  simp only [Bool.and_eq_true, decide_eq_true_eq, Bool.not_eq_true'] at h
  obtain ⟨⟨⟨hs, he⟩, hlo⟩, hput⟩ := h
  subst he
  have hs0 := hs
  simp only [okSess, Bool.and_eq_true] at hs
  obtain ⟨⟨hd1, hb1⟩, _⟩ := hs
  have ap := feedD_app en sh lo H A C hd1 hH hA hC
  obtain ⟨f1, f2, f3, f4, f5, f6⟩ := feedD_ok en sh lo H A hd1 hH hA
  have cs := okDec_cases hd1
  have hq : (feedD en sh lo H (A ++ C)).2.2.2.2.all okLong = true := by
    unfold putOk at hput
    simp only [Bool.and_eq_true] at hput
    exact hput.1.1.2
  have hunit : en ≠ 4 → en ≠ 5 → (feedD en sh lo H A).2.1 ≤ 1000 := by
    intro a b
    unfold feedD
    rw [if_neg (fun c => c.elim a b)]
    exact cs.2.2.2.2.1
  rw [ap] at hlo hput hq ⊢
  generalize hF : feedD en sh lo H A = F at *
  obtain ⟨sh1, lo1, H1, p1, q1⟩ := F
  simp only at *
  have hlo1 : lo1 ≤ 1000 := by
    rw [List.all_append, Bool.and_eq_true] at hq
    exact feedD_lo en sh1 lo1 H1 C hunit hlo hq.2
  generalize hF2 : feedD en sh1 lo1 H1 C = F2 at *
  obtain ⟨sh2, lo2, H2, p2, q2⟩ := F2
  simp only at *
  have sp := put_split hput p1.length (by simp)
  rw [List.take_left, List.drop_left, ← f2, List.take_left, List.drop_left] at sp
  refine ⟨?_, ?_⟩
  · unfold fedOk
    rw [hF, hs0]
    simp only [Bool.not_false, Bool.and_true, Bool.true_and, Bool.and_eq_true, decide_eq_true_eq]
    exact ⟨hlo1, sp.1⟩
  · intro rs' ls' g' t ht
    obtain ⟨s1, s2, s3⟩ := sp.2 rs' ls' g' t ht
    have hb' : okBuf m rs' ls' g' = true := by
      unfold putOk at s1
      simp only [Bool.and_eq_true] at s1
      exact s1.1.1.1.1.1
    have hs1 : okSess en sh1 lo1 H1 m rs' ls' g' false = true := by
      unfold okSess
      rw [f4, hb']
      simp [hlo1]
    refine ⟨?_, _, s2, s3⟩
    unfold fedOk
    rw [hF2, hs1]
    simp only [Bool.not_false, Bool.and_true, Bool.true_and, Bool.and_eq_true, decide_eq_true_eq]
    exact ⟨hlo, s1⟩
theorem p_sameInts (p q : List Int) (hp : p.length ≤ big) : z1q.f p q = some (decide (p = q)) :=
  eq_all p q hp (z1q.l1 p q) _ (by omega) fun _ _ _ => rfl
theorem p_sameBuf (m : Int) (rs ls : List Int) (g : Int) (hr : rs.length ≤ big) (hl : ls.length ≤ big) : z1r.f m rs ls g m rs ls g = some true := by
  unfold z1r.f
  rw [p_sameInts rs rs hr, p_sameInts ls ls hl]
  simp
theorem p_sameSess (a b c : Int) (d : ByteArray) (m : Int) (rs ls : List Int) (g : Int) (e : Bool) (hr : rs.length ≤ big) (hl : ls.length ≤ big) : z1s.f a b c d m rs ls g e a b c d m rs ls g e = some true := by
  unfold z1s.f
  rw [p_sameBuf m rs ls g hr hl]
  have hd : (d == d) = true := by
    obtain ⟨x⟩ := d
    exact beq_self_eq_true x
  simp [hd]
theorem p_big (p q : List Int) (hp : p.length ≤ maxN) : z0.f p q = some (decide ((p.length : Int) + q.length > 1048576)) := by
  unfold z0.f
  unfold maxN at hp
  by_cases h : (p.length : Int) > 1048576
  · rw [if_pos (by simpa using h)]
    simp; omega
  · rw [if_neg (by simpa using h), y08 (by omega) (by omega)]
    congr 1
    rw [Bool.eq_iff_iff]
    simp; omega
theorem p_numberOf (p : List Int) (hp : p.length ≤ big) (hb : allW (inK .u8) p) : ∃ n : Int, z1t.f p = some n ∧ 0 ≤ n ∧ n < 1000003 := by
  unfold z1t.f
  have key : ∀ (k i : Nat) (x : Int), i ≤ p.length → p.length - i < k → 0 ≤ x → x < 1000003 → ∃ n, z1t.l1 p k x i = some n ∧ 0 ≤ n ∧ n < 1000003 := by
    intro k
    induction k with
    | zero => intro i x _ h; omega
    | succ k ih =>
      intro i x hi hk h0 h1
      rw [z1t.l1]
      by_cases h : i < p.length
      · have hu : -0 ≤ p[i] ∧ p[i] ≤ 255 := hb.2 _ (List.getElem_mem h)
        rw [if_pos (by simpa using h), rd?_at h]
        simp only [Option.bind_some]
        rw [y08 (n := 31 * x) (by omega) (by omega), y08 (n := p[i]) (by omega) (by omega), y08 (by omega) (by omega)]
        have hr : rem? (31 * x + p[i]) 1000003 = some ((31 * x + p[i]) % 1000003) := by
          unfold rem?
          rw [if_neg (by decide), Int.tmod_eq_emod_of_nonneg (by omega)]
        rw [hr]
        simp only [Option.bind_some]
        rw [wrapN i (by unfold big at hp; omega)]
        exact ih (i + 1) _ h (by omega) (by omega) (by omega)
      · rw [if_neg (by simpa using h)]
        exact ⟨x, rfl, h0, h1⟩
  obtain ⟨n, e, h0, h1⟩ := key (((p.length : Int) - 0).toNat + 2) 0 0 (by omega) (by omega) (by omega) (by omega)
  rw [show ((0 : Nat) : Int) = 0 from rfl] at e
  rw [e]
  exact ⟨n, rfl, h0, h1⟩
theorem p_FeedX (en sh lo : Int) (hd : ByteArray) (m : Int) (rs ls : List Int) (g : Int) (eof : Bool) (p : ByteArray) (hr : rs.length ≤ 5000) (hl : ls.length ≤ 5000) (hp : p.size ≤ 900) : ∃ R : Int × Int × Int × ByteArray × Int × List Int × List Int × Int × Bool × List Int × Bool, z1p.f en sh lo hd m rs ls g eof p = some R ∧ z06.f en sh lo hd m rs ls g eof p = some R ∧ R.2.2.2.2.2.1.length ≤ 5000 ∧ R.2.2.2.2.2.2.1.length ≤ 5000 ∧ R.2.2.2.2.2.2.2.2.2.1.length ≤ 5000 ∧ R.2.2.2.2.2.2.2.2.2.2 = fedOk en sh lo (y9 hd) m rs ls g eof (y9 p) := by
  obtain ⟨h1, h2⟩ := p_FeedBoth en sh lo hd m rs ls g eof p (by unfold big; omega) (by unfold big; omega) (by omega)
  cases h : fedOk en sh lo (y9 hd) m rs ls g eof (y9 p) with
  | false => exact ⟨_, (h1 h).1, (h1 h).2, by simp, by simp, by simp, rfl⟩
  | true =>
    obtain ⟨T, _, e1, e2⟩ := h2 h
    have hs : okSess en sh lo (y9 hd) m rs ls g eof = true := by
      unfold fedOk at h
      simp only [Bool.and_eq_true] at h
      exact h.1.1.1
    simp only [okSess, Bool.and_eq_true] at hs
    have hH := okDec_len hs.1.1
    have hB := size_bytes p
    obtain ⟨f1, f2, _⟩ := feedD_ok en sh lo (y9 hd) (y9 p) hs.1.1 (bytes_rng hd) (bytes_rng p)
    have hb := hs.1.2
    simp only [okBuf, Bool.and_eq_true, decide_eq_true_eq, beq_iff_eq] at hb
    refine ⟨_, e1, e2.trans e1, ?_⟩
    dsimp only
    unfold putR
    split
    · refine ⟨?_, ?_, ?_, rfl⟩ <;> (simp; omega)
    · simp
theorem fed_put {en sh lo : Int} {H : List Int} {m : Int} {rs ls : List Int} {g : Int} {eof : Bool} {B : List Int} (h : fedOk en sh lo H m rs ls g eof B = true) : ∃ rs' ls' g' t, putR m rs ls g (feedD en sh lo H B).2.2.2.1 (feedD en sh lo H B).2.2.2.2 = (m, rs', ls', g', t, true) := by
  unfold fedOk at h
  simp only [Bool.and_eq_true] at h
  unfold putR
  rw [if_pos h.2]
  exact ⟨_, _, _, _, rfl⟩
theorem end_eof {en sh lo : Int} {hd : ByteArray} {m : Int} {rs ls : List Int} {g : Int} {eof : Bool} {r : Int × Int × Int × ByteArray × Int × List Int × List Int × Int × Bool × List Int × Bool} (h : z0j.f en sh lo hd m rs ls g eof = some r) (ho : r.2.2.2.2.2.2.2.2.2.2 = true) : r.2.2.2.2.2.2.2.2.1 = true := by
  unfold z0j.f at h
  obtain ⟨b, _, h⟩ := Option.bind_eq_some_iff.1 h
  dsimp only at h
  split at h
  · cases h
    cases ho
  obtain ⟨u, _, h⟩ := Option.bind_eq_some_iff.1 h
  obtain ⟨v, hv, h⟩ := Option.bind_eq_some_iff.1 h
  cases h
  unfold z05.f at hv
  obtain ⟨w, _, hv⟩ := Option.bind_eq_some_iff.1 hv
  obtain ⟨c, _, hv⟩ := Option.bind_eq_some_iff.1 hv
  dsimp only at hv
  split at hv
  · cases hv
    cases ho
  · cases hv
    rfl
theorem end_again (en sh lo : Int) (hd : ByteArray) (m : Int) (rs ls : List Int) (g : Int) (hr : rs.length ≤ 5000) (hl : ls.length ≤ 5000) : z1y.f en sh lo hd m rs ls g true = some (0, 0, 0, (⟨#[]⟩), 0, [], [], 0, false, [], false) := by
  unfold z1y.f
  rw [p_implSess en sh lo hd m rs ls g true (by unfold big; omega) (by unfold big; omega)]
  cases okSess en sh lo (y9 hd) m rs ls g true <;> rfl
theorem p_NewBoth (en m : Int) : ∃ R : Int × Int × Int × ByteArray × Int × List Int × List Int × Int × Bool × Bool, z22.f en m = some R ∧ zt.f en m = some R ∧ R.2.2.2.2.2.1.length = 0 ∧ R.2.2.2.2.2.2.1.length = 0 := by
  unfold z22.f zt.f z21.f z0n.f
  rw [p_specSess en 0 0 _ m [] [] 0 false (by decide) (by decide), p_inRange, p_inRange]
  simp only [Option.bind_some]
  have e : okSess en 0 0 (y9 ⟨#[]⟩) m [] [] 0 false = ((decide (1 ≤ en) && decide (en ≤ 5)) && (decide (1 ≤ m) && decide (m ≤ 60))) := by
    rw [bytes_nil]
    unfold okSess okDec okBuf
    rw [Bool.eq_iff_iff]
    simp
    omega
  rw [e]
  cases decide (1 ≤ en) && decide (en ≤ 5) with
  | false => exact ⟨_, rfl, rfl, rfl, rfl⟩
  | true =>
    simp only [Bool.not_true, Bool.false_eq_true, if_false, Bool.true_and, Option.bind_some]
    cases decide (1 ≤ m) && decide (m ≤ 60) with
    | false => exact ⟨_, rfl, rfl, rfl, rfl⟩
    | true => exact ⟨_, rfl, rfl, rfl, rfl⟩
theorem law_Session (p q : List Int) (hp : allW (inK .u8) p) (hq : allW (inK .u8) q) : z23.f p q = some true := by
  suffices h : Tt (z23.f p q) fun r => r = true by
    obtain ⟨r, e, rfl⟩ := h
    exact e
  unfold z23.f
  rw [p_big p q hp.1]
  refine (Tt.one (Φ := fun b => b = decide ((p.length : Int) + q.length > 1048576)) rfl).bind fun b hb => ?_
  refine Tt.ite (fun _ => .one rfl) (fun hn => ?_)
  have hqb : q.length ≤ big := by
    subst hb
    have : ¬ ((p.length : Int) + q.length > 1048576) := by simpa using hn
    unfold big; omega
  unfold z0l.f
  refine Tt.bind (Φ := fun r : Int × Int × Int × ByteArray × Int × (List (Int)) × (List (Int)) × Int × Bool × ByteArray => r.2.2.2.2.2.1.length ≤ 5000 ∧ r.2.2.2.2.2.2.1.length ≤ 5000 ∧ r.2.2.2.2.2.2.2.2.2.size ≤ 60) ((t_session hp (by decide) (by decide)).bind fun u hu => (t_simple hp (by omega) (by omega)).bind fun v hv => .one ⟨hu.1, hu.2.1, hv.1⟩) fun u hu => ?_
  obtain ⟨en, sh, lo, hd, m, rs, ls, g, eof, x⟩ := u
  dsimp only at *
  obtain ⟨hr, hl, hx⟩ := hu
  have b1 : rs.length ≤ big := by unfold big; omega
  have b2 : ls.length ≤ big := by unfold big; omega
  obtain ⟨R, e1, e2, r1, r2, r3, rok⟩ := p_FeedX en sh lo hd m rs ls g eof x hr hl (by omega)
  rw [e1, e2, p_implSess en sh lo hd m rs ls g eof b1 b2, p_specSess en sh lo hd m rs ls g eof b1 b2]
  simp only [Option.bind_some]
  rw [p_sameSess _ _ _ _ _ _ _ _ _ (by unfold big; omega) (by unfold big; omega), p_sameInts _ _ (by unfold big; omega)]
  simp only [Option.bind_some, bne_self_eq_false, Bool.false_eq_true, if_false, Bool.not_true, decide_true]
  refine Tt.bind (Φ := fun o => o = Lo.go ()) ?_ fun o ho => ?_
  · cases hok : R.2.2.2.2.2.2.2.2.2.2 with
    | false => exact .one rfl
    | true =>
      rw [if_pos rfl]
      have hf := rok.symm.trans hok
      obtain ⟨n, en', n0, n1⟩ := p_numberOf q hqb hq
      rw [en']
      simp only [Option.bind_some]
      rw [y08 (n := (x.size : Int) + 1) (by omega) (by omega)]
      have hrm : rem? n ((x.size : Int) + 1) = some (n % ((x.size : Int) + 1)) := by
        unfold rem?
        rw [if_neg (by omega), Int.tmod_eq_emod_of_nonneg n0]
      rw [hrm]
      simp only [Option.bind_some]
      have hk0 := Int.emod_nonneg n (show ((x.size : Int) + 1) ≠ 0 by omega)
      have hk1 := Int.emod_lt_of_pos n (show 0 < ((x.size : Int) + 1) by omega)
      obtain ⟨k, hk⟩ := Int.eq_ofNat_of_zero_le hk0
      rw [hk] at hk1 ⊢
      have hkx : k ≤ x.size := by omega
      obtain ⟨S1, c1, d1⟩ := cutS_at x (a := 0) (b := k) (by omega) hkx
      obtain ⟨S2, c2, d2⟩ := cutS_at x (a := k) (b := x.size) hkx (Nat.le_refl _)
      rw [show ((0 : Nat) : Int) = 0 from rfl] at c1
      rw [c1, c2]
      simp only [Option.bind_some]
      have hz := size_bytes x
      have hsplit : y9 x = y9 S1 ++ y9 S2 := by
        rw [d1, d2, hz, List.take_length, List.drop_zero, List.take_append_drop]
      have z1 : S1.size ≤ 900 := by rw [size_bytes, d1]; simp; omega
      have z2 : S2.size ≤ 900 := by rw [size_bytes, d2]; simp; omega
      rw [hsplit] at hf
      obtain ⟨g1, g2⟩ := fed_split en sh lo (y9 hd) m rs ls g eof (y9 S1) (y9 S2) (bytes_rng hd) (bytes_rng S1) (bytes_rng S2) hf
      obtain ⟨rs1, ls1, gg1, t1, P1⟩ := fed_put g1
      obtain ⟨g3, t2, g4, g5⟩ := g2 rs1 ls1 gg1 t1 P1
      obtain ⟨T1, hT1, i1, _⟩ := (p_FeedBoth en sh lo hd m rs ls g eof S1 b1 b2 (by omega)).2 g1
      obtain ⟨R1, j1, _, l1, l2, l3, _⟩ := p_FeedX en sh lo hd m rs ls g eof S1 hr hl z1
      have eR1 := Option.some.inj (j1.symm.trans i1)
      rw [P1] at eR1 i1
      dsimp only at eR1 i1
      subst eR1
      dsimp only at l1 l2 l3
      rw [i1]
      simp only [Option.bind_some]
      have c1' : rs1.length ≤ big := by unfold big; omega
      have c2' : ls1.length ≤ big := by unfold big; omega
      rw [← hT1] at g3 g4
      obtain ⟨T2, hT2, i2, _⟩ := (p_FeedBoth _ _ _ T1 m rs1 ls1 gg1 false S2 c1' c2' (by omega)).2 g3
      rw [i2]
      simp only [Option.bind_some]
      rw [g4]
      dsimp only
      simp only [Bool.not_true, Bool.false_eq_true, if_false]
      obtain ⟨T, hT, i3, _⟩ := (p_FeedBoth en sh lo hd m rs ls g eof x b1 b2 (by omega)).2 (rok.symm.trans hok)
      have eR := Option.some.inj (e1.symm.trans i3)
      rw [hsplit] at eR hT
      have hs : okSess en sh lo (y9 hd) m rs ls g eof = true := by
        have h := g1
        unfold fedOk at h
        simp only [Bool.and_eq_true] at h
        exact h.1.1.1
      simp only [okSess, Bool.and_eq_true] at hs
      have ap := feedD_app en sh lo (y9 hd) (y9 S1) (y9 S2) hs.1.1 (bytes_rng hd) (bytes_rng S1) (bytes_rng S2)
      rw [← hT1] at ap
      have eT : T2 = T := bytesB_inj (by rw [hT2, hT, ap])
      subst eT
      have q1 : (feedD en sh lo (y9 hd) (y9 S1 ++ y9 S2)).1 = (feedD en (feedD en sh lo (y9 hd) (y9 S1)).1 (feedD en sh lo (y9 hd) (y9 S1)).2.1 (y9 T1) (y9 S2)).1 := by rw [ap]
      have q2 : (feedD en sh lo (y9 hd) (y9 S1 ++ y9 S2)).2.1 = (feedD en (feedD en sh lo (y9 hd) (y9 S1)).1 (feedD en sh lo (y9 hd) (y9 S1)).2.1 (y9 T1) (y9 S2)).2.1 := by rw [ap]
      rw [← q1, ← q2]
      rw [eR]
      dsimp only
      have r1' := r1
      have r2' := r2
      have r3' := r3
      rw [eR] at r1' r2' r3'
      dsimp only at r1' r2' r3'
      rw [p_sameSess _ _ _ _ _ _ _ _ _ (by unfold big; omega) (by unfold big; omega)]
      simp only [Option.bind_some, Bool.not_true, Bool.false_eq_true, if_false]
      have t12 : (t1 ++ t2).length ≤ 5000 := by rw [g5]; exact r3'
      rw [app?_at (by rw [List.length_append] at t12; omega), g5]
      simp only [Option.bind_some]
      rw [p_sameInts _ _ (by unfold big; omega)]
      simp only [Option.bind_some, decide_true, Bool.not_true, Bool.false_eq_true, if_false]
      exact .one rfl
  subst ho
  dsimp only
  unfold z1v.f z1u.f
  refine Tt.bind (Φ := fun r : Int × Int × Int × ByteArray × Int × (List (Int)) × (List (Int)) × Int × Bool => r.2.2.2.2.2.1.length ≤ 5000 ∧ r.2.2.2.2.2.2.1.length ≤ 5000) ((Tt.bind (Φ := fun r : Int × Int × Int × ByteArray × Int × (List (Int)) × (List (Int)) × Int × Bool => r.2.2.2.2.2.1.length ≤ 5000 ∧ r.2.2.2.2.2.2.1.length ≤ 5000) ((t_session hq (by decide) (by decide)).bind fun u hu => .one ⟨hu.1, hu.2.1⟩)) fun u hu => .one hu) fun u hu => ?_
  obtain ⟨en, sh, lo, hd, m, rs, ls, g, eof⟩ := u
  dsimp only at *
  obtain ⟨r, e1, e2, s1, s2, s3⟩ := p_EndSession en sh lo hd m rs ls g eof (by unfold big; omega) (by unfold big; omega)
  rw [e1, e2]
  simp only [Option.bind_some]
  have hd2 : Tt (z20.f q) fun _ => True := by
    unfold z20.f z1z.f
    refine (Tt.bind (Φ := fun r : Int × Int × Int => 0 ≤ r.2.1 ∧ r.2.1 ≤ 100) ((t_among hq (by decide) (by decide) (by decide)).bind fun u hu => .one ⟨by dsimp only; omega, by dsimp only; omega⟩)) fun u hu => ?_
    exact (t_among hq (by decide) hu.1 (by omega)).bind fun v hv => .one trivial
  refine hd2.bind fun v _ => ?_
  obtain ⟨N, n1, n2, n3, n4⟩ := p_NewBoth v.1 v.2
  rw [n1, n2]
  simp only [Option.bind_some]
  rw [p_sameSess _ _ _ _ _ _ _ _ _ (by unfold big; omega) (by unfold big; omega), p_sameSess _ _ _ _ _ _ _ _ _ (by unfold big; omega) (by unfold big; omega), p_sameInts _ _ (by unfold big; omega)]
  simp only [Option.bind_some, bne_self_eq_false, Bool.false_eq_true, if_false, Bool.not_true, decide_true]
  refine Tt.ite (fun ho => ?_) (fun _ => .one rfl)
  have hE := end_eof e2 ho
  rw [hE, end_again _ _ _ _ _ _ _ _ s1 s2]
  exact .one rfl
end Go.Proofs.YtaojkgkajppkaaaDoor
