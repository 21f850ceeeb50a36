/- Plain laws of the printed functions. Conditions as each lemma says. -/
import Derived.Test.YtaojkgkajppkaaaDoorPB
import Derived.Test.YtaojkgkajppkaaaDoorWEndSession2
set_option linter.unusedVariables false
set_option linter.unusedSimpArgs false
namespace Go.Proofs.YtaojkgkajppkaaaDoor
open Go Go.Proofs.GL
theorem p_l1In (a b c : Int) : z8.f a b c = some (decide (b ≤ a) && decide (a ≤ c)) := by
  unfold z8.f
  by_cases h : b ≤ a
  · rw [if_pos (by simpa using h)]; simp [h]
  · rw [if_neg (by simpa using h)]; simp [h]
theorem p_inRange (a b c : Int) : zw.f a b c = some (decide (b ≤ a) && decide (a ≤ c)) := by
  unfold zw.f
  by_cases h : b ≤ a
  · rw [if_pos (by simpa using h)]; simp [h]
  · rw [if_neg (by simpa using h)]; simp [h]
def okRune (r : Int) : Bool := decide (0 ≤ r) && decide (r ≤ 1114111) && !(decide (55296 ≤ r) && decide (r ≤ 57343))
theorem p_specRune (r : Int) : zb.f r = some (okRune r) := by
  unfold zb.f okRune
  simp only [p_l1In, Option.bind_some]
  cases (decide (0 ≤ r) && decide (r ≤ 1114111)) <;> rfl
theorem p_implRune (r : Int) : z04.f r = some (okRune r) := by
  unfold z04.f okRune
  simp only [p_inRange, Option.bind_some]
  cases (decide (0 ≤ r) && decide (r ≤ 1114111)) <;> rfl
theorem p_allRunes (p : List Int) (hp : p.length ≤ big) : zj.f p = some (p.all okRune && decide (p.length ≤ 1000)) := by
  unfold zj.f
  have := all_loop p hp (fun u => !okRune u) false (zj.l1 p) (fun k i => by rw [zj.l1]; simp only [p_specRune, Option.bind_some]) (((p.length : Int) - 0).toNat + 2) 0 (by omega) (by omega)
  rw [show ((0 : Nat) : Int) = 0 from rfl] at this
  rw [this, List.drop_zero]
  have e : p.any (fun u => !okRune u) = !p.all okRune := by rw [List.all_eq_not_any_not]; simp
  rw [e]
  cases h : p.all okRune <;> simp
  omega
/-- The bytes of a rune. -/
def u8s (r : Int) : List Int := if r < 128 then [r] else if r < 2048 then [192 + r / 64, 128 + r % 64] else if r < 65536 then [224 + r / 4096, 128 + r / 64 % 64, 128 + r % 64] else [240 + r / 262144, 128 + r / 4096 % 64, 128 + r / 64 % 64, 128 + r % 64]
theorem u8s_len (r : Int) : (u8s r).length ≤ 4 := by
  unfold u8s
  split
  · simp
  · split
    · simp
    · split <;> simp
theorem bytes_text : ∀ (xs : List Int), (∀ u ∈ xs, 0 ≤ u ∧ u < 256) → yo (textB xs) = xs := by
  have key : ∀ (xs : List Int) (s : ByteArray), (∀ u ∈ xs, 0 ≤ u ∧ u < 256) → yo (xs.foldl (fun s n => s.push (UInt8.ofNat n.toNat)) s) = yo s ++ xs := by
    intro xs
    induction xs with
    | nil => intro s _; simp
    | cons x xs ih =>
      intro s h
      obtain ⟨h0, h1⟩ := h x (by simp)
      rw [List.foldl_cons, ih _ fun v hv => h v (List.mem_cons_of_mem _ hv)]
      have e : yo (s.push (UInt8.ofNat x.toNat)) = yo s ++ [x] := by
        unfold yo
        simp [ByteArray.push]
        omega
      rw [e, List.append_assoc]
      rfl
  intro xs h
  unfold textB
  rw [key xs _ h]
  rfl
theorem quo_pos {r n : Int} (h0 : 0 ≤ r) (h1 : r ≤ 2000000) (hn : 1 ≤ n) (hn2 : n ≤ 1000000) : quo? .i64 r n = some (r / n) := by
  unfold quo?
  have h2 : r / n ≤ r := Int.ediv_le_self _ h0
  have h3 : 0 ≤ r / n := Int.ediv_nonneg h0 (by omega)
  rw [if_neg (by omega), Int.tdiv_eq_ediv_of_nonneg h0, wrapS (by omega) (by omega)]
theorem rem_pos {r n : Int} (h0 : 0 ≤ r) (hn : 1 ≤ n) : rem? r n = some (r % n) := by
  unfold rem?
  rw [if_neg (by omega), Int.tmod_eq_emod_of_nonneg h0]
theorem w8 {n : Int} (h0 : 0 ≤ n) (h1 : n ≤ 255) : IntKind.u8.wrap n = n := by rw [IntKind.wrap_u8]; omega
theorem u8s_in {r : Int} (h0 : 0 ≤ r) (h1 : r ≤ 1114111) : ∀ u ∈ u8s r, 0 ≤ u ∧ u < 256 := by
  unfold u8s
  intro u hu
  split at hu
  · simp at hu; omega
  · split at hu
    · simp at hu; omega
    · split at hu
      · simp at hu; omega
      · simp at hu; omega
theorem p_l1Utf8 (r : Int) (h0 : 0 ≤ r) (h1 : r ≤ 1114111) : zc.f r = some (textB (u8s r)) := by
  unfold zc.f u8s
  simp only [quo_pos (r := r) h0 (by omega) (show (1 : Int) ≤ 64 by omega) (by omega), quo_pos (r := r) h0 (by omega) (show (1 : Int) ≤ 4096 by omega) (by omega), quo_pos (r := r) h0 (by omega) (show (1 : Int) ≤ 262144 by omega) (by omega), rem_pos (r := r) h0 (show (1 : Int) ≤ 64 by omega), rem_pos (r := r / 64) (n := 64) (by omega) (by omega), rem_pos (r := r / 4096) (n := 64) (by omega) (by omega), Option.bind_some]
  by_cases c1 : r < 128
  · rw [if_pos (by simpa using c1), if_pos c1, w8 (by omega) (by omega)]
  · rw [if_neg (by simpa using c1), if_neg c1]
    by_cases c2 : r < 2048
    · rw [if_pos (by simpa using c2), if_pos c2, wrapS (n := 192 + r / 64) (by omega) (by omega), wrapS (n := 128 + r % 64) (by omega) (by omega), w8 (n := 192 + r / 64) (by omega) (by omega), w8 (n := 128 + r % 64) (by omega) (by omega)]
    · rw [if_neg (by simpa using c2), if_neg c2]
      by_cases c3 : r < 65536
      · rw [if_pos (by simpa using c3), if_pos c3, wrapS (n := 224 + r / 4096) (by omega) (by omega), wrapS (n := 128 + r / 64 % 64) (by omega) (by omega), wrapS (n := 128 + r % 64) (by omega) (by omega), w8 (n := 224 + r / 4096) (by omega) (by omega), w8 (n := 128 + r / 64 % 64) (by omega) (by omega), w8 (n := 128 + r % 64) (by omega) (by omega)]
      · rw [if_neg (by simpa using c3), if_neg c3, wrapS (n := 240 + r / 262144) (by omega) (by omega), wrapS (n := 128 + r / 4096 % 64) (by omega) (by omega), wrapS (n := 128 + r / 64 % 64) (by omega) (by omega), wrapS (n := 128 + r % 64) (by omega) (by omega), w8 (n := 240 + r / 262144) (by omega) (by omega), w8 (n := 128 + r / 4096 % 64) (by omega) (by omega), w8 (n := 128 + r / 64 % 64) (by omega) (by omega), w8 (n := 128 + r % 64) (by omega) (by omega)]
theorem b_and63 (n : Int) (h0 : 0 ≤ n) (h1 : n < 256) : bits .and .u8 n 63 = n % 64 := by
  obtain ⟨k, rfl⟩ := Int.eq_ofNat_of_zero_le h0
  have : ∀ k : Nat, k < 256 → bits .and .u8 (k : Int) 63 = (k : Int) % 64 := by decide +kernel
  exact this k (by omega)
theorem b_or128 (n : Int) (h0 : 0 ≤ n) (h1 : n < 64) : bits .or .u8 128 n = 128 + n := by
  obtain ⟨k, rfl⟩ := Int.eq_ofNat_of_zero_le h0
  have : ∀ k : Nat, k < 64 → bits .or .u8 128 (k : Int) = 128 + (k : Int) := by decide +kernel
  exact this k (by omega)
theorem b_or192 (n : Int) (h0 : 0 ≤ n) (h1 : n < 32) : bits .or .u8 192 n = 192 + n := by
  obtain ⟨k, rfl⟩ := Int.eq_ofNat_of_zero_le h0
  have : ∀ k : Nat, k < 32 → bits .or .u8 192 (k : Int) = 192 + (k : Int) := by decide +kernel
  exact this k (by omega)
theorem b_or224 (n : Int) (h0 : 0 ≤ n) (h1 : n < 16) : bits .or .u8 224 n = 224 + n := by
  obtain ⟨k, rfl⟩ := Int.eq_ofNat_of_zero_le h0
  have : ∀ k : Nat, k < 16 → bits .or .u8 224 (k : Int) = 224 + (k : Int) := by decide +kernel
  exact this k (by omega)
theorem b_or240 (n : Int) (h0 : 0 ≤ n) (h1 : n < 8) : bits .or .u8 240 n = 240 + n := by
  obtain ⟨k, rfl⟩ := Int.eq_ofNat_of_zero_le h0
  have : ∀ k : Nat, k < 8 → bits .or .u8 240 (k : Int) = 240 + (k : Int) := by decide +kernel
  exact this k (by omega)
theorem b_cont (q : Int) : bits .or .u8 128 (bits .and .u8 (IntKind.u8.wrap q) 63) = 128 + q % 64 := by
  have e : IntKind.u8.wrap q = q % 256 := by rw [IntKind.wrap_u8]
  rw [e, b_and63 _ (by omega) (by omega), b_or128 _ (by omega) (by omega)]
  omega
theorem shr32 (r : Int) (k : Nat) (hk : k ≤ 20) : shrK? .i32 r (k : Int) = some (r / 2 ^ k) := by
  unfold shrK?
  have e : min ((k : Int)).toNat IntKind.i32.bits = k := by
    have : IntKind.i32.bits = 32 := rfl
    rw [this]
    omega
  rw [if_pos (by omega), e, Int.fdiv_eq_ediv_of_nonneg _ (by exact Int.pow_nonneg (by omega))]
def wZ {α : Type} (_ : α) : Int := 0
def wStr (s : ByteArray) : Int := s.size
def wL {α : Type} (w : α → Int) (p : List α) : Int := p.length + sumW w p
def okZ {α : Type} (_ : α) : Prop := True
def okStr (s : ByteArray) : Prop := s.size ≤ maxN
def okL {α : Type} (ok : α → Prop) (p : List α) : Prop := p.length ≤ maxN ∧ ∀ u ∈ p, ok u
theorem wZ_pos {α : Type} (u : α) : 0 ≤ wZ u := Int.le_refl _
theorem wStr_pos (s : ByteArray) : 0 ≤ wStr s := by unfold wStr; omega
theorem wL_pos {α : Type} {w : α → Int} (h : ∀ u, 0 ≤ w u) (p : List α) : 0 ≤ wL w p := by
  have := sumW_pos (w := w) (us := p) fun u _ => h u
  unfold wL
  omega
theorem wL_len {α : Type} {w : α → Int} (h : ∀ u, 0 ≤ w u) (p : List α) : (p.length : Int) ≤ wL w p := by
  have := sumW_pos (w := w) (us := p) fun u _ => h u
  unfold wL
  omega
theorem wL_big {α : Type} {w : α → Int} (h : ∀ u, 0 ≤ w u) {p : List α} (hp : wL w p ≤ 1000000000) : p.length ≤ big := by
  have := wL_len h p
  unfold big
  omega
theorem wL_cap {α : Type} {w : α → Int} (h : ∀ u, 0 ≤ w u) {p : List α} (hp : wL w p ≤ 1000000000) {n : Nat} (hn : 1000000000 ≤ n) : p.length ≤ n := by
  have := wL_len h p
  omega
theorem wL_mem {α : Type} {w : α → Int} (h : ∀ u, 0 ≤ w u) {p : List α} (hp : wL w p ≤ 1000000000) {u : α} (hu : u ∈ p) : w u ≤ 1000000000 := by
  have := sumW_mem (w := w) (us := p) (fun u _ => h u) u hu
  unfold wL at hp
  omega
theorem sumW_zero {α : Type} {w : α → Int} : ∀ p : List α, (∀ u, w u = 0) → sumW w p = 0
  | [], _ => rfl
  | u :: us, h => by
    have := sumW_zero us h
    have := h u
    unfold sumW
    omega
theorem wL_int (p : List Int) : wL wZ p = p.length := by
  have := sumW_zero (w := wZ) p fun _ => rfl
  unfold wL
  omega
theorem rd_mid {α : Type} (pre : List α) (u : α) (us : List α) : rd? (pre ++ u :: us) (pre.length : Int) = some u := by rw [rd?_at (by simp)]; simp
theorem st_mid {α : Type} (pre : List α) (u v : α) (us : List α) : st? (pre ++ u :: us) (pre.length : Int) v = some (pre ++ v :: us) := by rw [st?_at _ (by simp)]; simp
theorem baT (b : ByteArray) : b.toList = b.data.toList := by
  have key : ∀ (k i : Nat) (r : List UInt8), b.size - i ≤ k → ByteArray.toList.loop b i r = r.reverse ++ b.data.toList.drop i := by
    intro k
    induction k with
    | zero =>
      intro i r h
      rw [ByteArray.toList.loop]
      rw [if_neg (by omega)]
      rw [List.drop_of_length_le (by simp; have : b.data.size = b.size := rfl; omega)]
      simp
    | succ k ih =>
      intro i r h
      rw [ByteArray.toList.loop]
      by_cases hi : i < b.size
      · rw [if_pos hi, ih (i+1) _ (by omega)]
        have hs : i < b.data.toList.length := by simpa using hi
        rw [List.drop_eq_getElem_cons hs]
        have e : b.get! i = b.data.toList[i] := by
          have h2 : i < b.data.size := hi
          show b.data[i]! = _
          rw [getElem!_pos b.data i h2]
          simp
        simp [e]
      · rw [if_neg hi, List.drop_of_length_le (by simp; have : b.data.size = b.size := rfl; omega)]
        simp
  have := key b.size 0 [] (by omega)
  simpa [ByteArray.toList] using this
theorem baInj {a b : ByteArray} : (a.toList == b.toList) = decide (a = b) := by
  rw [baT, baT, Bool.eq_iff_iff]
  simp only [beq_iff_eq, decide_eq_true_eq]
  constructor
  · intro h
    obtain ⟨⟨x⟩⟩ := a
    obtain ⟨⟨y⟩⟩ := b
    simp at h
    rw [h]
  · rintro rfl; rfl
theorem rdS_at (S : ByteArray) (i : Nat) : rdS? S (i : Int) = (yo S)[i]? := by
  unfold rdS? yo
  rw [if_pos (by omega), List.getElem?_map, Array.getElem?_toList]
  rfl
theorem bytesB_inj {a b : ByteArray} (h : yo a = yo b) : a = b := by
  obtain ⟨⟨x⟩⟩ := a
  obtain ⟨⟨y⟩⟩ := b
  unfold yo at h
  have h2 : x = y := by
    have key : ∀ x y : List UInt8, x.map (fun b : UInt8 => (b.toNat : Int)) = y.map (fun b : UInt8 => (b.toNat : Int)) → x = y := by
      intro x
      induction x with
      | nil => intro y h; cases y with
        | nil => rfl
        | cons _ _ => cases h
      | cons u x ih =>
        intro y h
        cases y with
        | nil => cases h
        | cons v y =>
          simp only [List.map_cons, List.cons.injEq] at h
          have : u = v := UInt8.toNat_inj.1 (by omega)
          rw [this, ih y h.2]
    exact key x y h
  rw [h2]
theorem strB (a b : ByteArray) : (a.toList == b.toList) = decide (yo a = yo b) := by
  rw [baInj, Bool.eq_iff_iff]
  simp only [decide_eq_true_eq]
  exact ⟨fun h => by rw [h], bytesB_inj⟩
theorem bytes_rng (S : ByteArray) : ∀ u ∈ yo S, 0 ≤ u ∧ u < 256 := by
  unfold yo
  intro u hu
  obtain ⟨b, _, rfl⟩ := List.mem_map.1 hu
  have := b.toNat_lt
  omega
theorem bytes_nil : yo (⟨#[]⟩ : ByteArray) = [] := rfl
theorem size_bytes (S : ByteArray) : S.size = (yo S).length := (bytesB_len S).symm
theorem cutS_at (S : ByteArray) {a b : Nat} (h1 : a ≤ b) (h2 : b ≤ S.size) : ∃ T, cutS? S (a : Int) (b : Int) = some T ∧ yo T = ((yo S).take b).drop a := by
  unfold cutS?
  rw [if_pos ⟨by omega, by omega, by omega⟩]
  refine ⟨_, rfl, ?_⟩
  unfold yo
  simp [ByteArray.data_extract, List.extract_eq_take_drop, List.map_drop, List.map_take, List.drop_take]
theorem cat_at {n : Nat} {a b : ByteArray} (h : a.size + b.size ≤ n) : ∃ c, cat? n a b = some c ∧ yo c = yo a ++ yo b := by
  unfold cat?
  rw [if_pos h]
  refine ⟨_, rfl, ?_⟩
  unfold yo
  simp
/-- How many bytes a rune has that begins with a byte, as Go's table tells it; the bounds of the second. -/
def u8n (a : Int) : Int := if 194 ≤ a ∧ a ≤ 223 then 2 else if 224 ≤ a ∧ a ≤ 239 then 3 else if 240 ≤ a ∧ a ≤ 244 then 4 else if a < 128 then 0 else 1
def u8lo (a : Int) : Int := if a = 224 then 160 else if a = 240 then 144 else 128
def u8hi (a : Int) : Int := if a = 237 then 159 else if a = 244 then 143 else 191
def cont (a : Int) : Prop := 128 ≤ a ∧ a ≤ 191
def sndOk (a b : Int) : Prop := u8lo a ≤ b ∧ b ≤ u8hi a
instance (a : Int) : Decidable (cont a) := by unfold cont; infer_instance
instance (a b : Int) : Decidable (sndOk a b) := by unfold sndOk; infer_instance
def tabChk (a : Nat) : Bool := match rd? u8First (a : Int) with
  | some v => decide (IntKind.i64.wrap (bits .and .u8 v 7) = u8n a) && (decide (u8n a < 2) || (match shrK? .u8 v 4 with
    | some k => decide (rd? u8Accept k = some (u8lo a, u8hi a))
    | none => false))
  | none => false
theorem tabAll : ∀ a : Nat, a < 256 → tabChk a = true := by decide +kernel
theorem tab_of {a : Int} (h0 : 0 ≤ a) (h1 : a < 256) : ∃ v, rd? u8First a = some v ∧ IntKind.i64.wrap (bits .and .u8 v 7) = u8n a ∧ (2 ≤ u8n a → ∃ k, shrK? .u8 v 4 = some k ∧ rd? u8Accept k = some (u8lo a, u8hi a)) := by
  obtain ⟨n, rfl⟩ := Int.eq_ofNat_of_zero_le h0
  have := tabAll n (by omega)
  unfold tabChk at this
  cases hv : rd? u8First (n : Int) with
  | none => rw [hv] at this; cases this
  | some v =>
    rw [hv] at this
    simp only [Bool.and_eq_true, Bool.or_eq_true, decide_eq_true_eq] at this
    refine ⟨v, rfl, this.1, fun h2 => ?_⟩
    rcases this.2 with h | h
    · omega
    · cases hk : shrK? .u8 v 4 with
      | none => rw [hk] at h; cases h
      | some k =>
        rw [hk] at h
        exact ⟨k, rfl, by simpa using h⟩
/-- A rune that has begun, and has not ended. -/
def begB : List Int → Bool
  | [a] => decide (2 ≤ u8n a)
  | [a, b] => decide (3 ≤ u8n a) && decide (sndOk a b)
  | [a, b, c] => decide (4 ≤ u8n a) && (decide (sndOk a b) && decide (cont c))
  | _ => false
theorem u8n_le (a : Int) : u8n a ≤ 4 := by unfold u8n; repeat' split <;> omega
/-- The rune at the front, and how many bytes it has. -/
def dec (M : List Int) : Int × Int :=
  let a := M.getD 0 0; let b := M.getD 1 0; let c := M.getD 2 0; let d := M.getD 3 0
  if a < 128 then (a, 1)
  else if u8n a = 2 ∧ sndOk a b then ((a - 192) * 64 + (b - 128), 2)
  else if u8n a = 3 ∧ sndOk a b ∧ cont c then ((a - 224) * 4096 + (b - 128) * 64 + (c - 128), 3)
  else if u8n a = 4 ∧ sndOk a b ∧ cont c ∧ cont d then ((a - 240) * 262144 + (b - 128) * 4096 + (c - 128) * 64 + (d - 128), 4)
  else (65533, 1)
def l1L (a : Int) : Int := if a < 128 then 1 else if a < 192 then 0 else if a < 224 then 2 else if a < 240 then 3 else if a < 248 then 4 else 0
theorem p_l1Long (a : Int) : za.f a = some (l1L a) := by
  unfold za.f l1L
  repeat' split
  all_goals first | rfl | (simp at *; omega)
theorem u8s_eq {a b c d x : Int} : (u8s x = [a, b] → x < 128 ∨ 128 ≤ x) := fun _ => by omega
theorem l1At_fin (S : ByteArray) (p m : Nat) (x : Int) (hm : p + m ≤ S.size) (hm2 : 2 ≤ m) (hx0 : 0 ≤ x) (hx1 : x ≤ 2097151) (hS : S.size ≤ 4000000000) :
    (((zb.f x).bind fun u108 => if (!u108) = true then (some true) else ((cutS? S p ((p : Int) + (m : Int))).bind fun u110 => (zc.f x).bind fun u111 => some (!(u111.toList == u110.toList)))).bind fun (o : Bool) => (if o = true then (some ((65533 : Int), (1 : Int))) else (some (x, (m : Int))))) = some (if okRune x = true ∧ u8s x = ((yo S).drop p).take m then (x, (m : Int)) else (65533, 1)) := by
  rw [p_specRune]
  simp only [Option.bind_some]
  cases hg : okRune x with
  | false => simp
  | true =>
    have hx2 : x ≤ 1114111 := by
      simp only [okRune, Bool.and_eq_true, decide_eq_true_eq] at hg
      omega
    simp only [Bool.not_true, Bool.false_eq_true, if_false]
    rw [show (p : Int) + (m : Int) = ((p + m : Nat) : Int) by omega]
    obtain ⟨T, t1, t2⟩ := cutS_at S (a := p) (b := p + m) (by omega) hm
    rw [t1]
    simp only [Option.bind_some]
    rw [p_l1Utf8 x hx0 hx2]
    simp only [Option.bind_some]
    rw [strB, t2, bytes_text _ (u8s_in hx0 hx2)]
    have e : List.drop p (List.take (p + m) (yo S)) = ((yo S).drop p).take m := by
      rw [List.drop_take]
      congr 1
      omega
    rw [e]
    by_cases h : u8s x = ((yo S).drop p).take m
    · simp [h]
    · simp [h]
theorem l1At_step (S : ByteArray) (p m : Nat) (hS : S.size ≤ 4000000000) (j : Nat) (hj : j < m) (hm4 : m ≤ 4) (hpm : p + m ≤ S.size) (b : Int) (hb : ((yo S).drop p)[j]? = some b) (x : Int) (hx0 : 0 ≤ x) (hx1 : x ≤ 40000) (k : Nat) : zd.l1 S p m (k + 1) x j = zd.l1 S p m k (x * 64 + b % 64) ((j + 1 : Nat) : Int) := by
  have hbr := bytes_rng S b (List.mem_of_mem_drop (List.mem_of_getElem? hb))
  rw [zd.l1, if_pos (by rw [decide_eq_true_eq]; omega), wrapS (n := (p : Int) + j) (by omega) (by omega), show (p : Int) + (j : Int) = ((p + j : Nat) : Int) by omega, rdS_at]
  rw [List.getElem?_drop] at hb
  rw [hb]
  simp only [Option.bind_some]
  rw [wrapS (n := b) (by omega) (by omega), rem_pos (by omega) (by omega)]
  simp only [Option.bind_some]
  rw [wrapS (n := x * 64) (by omega) (by omega), wrapS (n := x * 64 + b % 64) (by omega) (by omega), wrapN j (by omega)]
theorem l1At_end (S : ByteArray) (p m : Nat) (x : Int) (k : Nat) : zd.l1 S p m (k + 1) x m = some x := by
  rw [zd.l1, if_neg (by simp)]
theorem p_l1At (S : ByteArray) (p : Nat) (hp : p < S.size) (hS : S.size ≤ 4000000000) : zd.f S p = some (dec ((yo S).drop p)) := by
  unfold zd.f
  have hL := size_bytes S
  have hr := bytes_rng S
  have hpl : p < (yo S).length := by omega
  have ha := List.drop_eq_getElem_cons hpl
  generalize hav : (yo S)[p] = a at ha
  have har : 0 ≤ a ∧ a < 256 := by rw [← hav]; exact hr _ (List.getElem_mem hpl)
  have h0 : rdS? S (p : Int) = some a := by rw [rdS_at, List.getElem?_eq_getElem hpl, hav]
  simp only [h0, Option.bind_some, p_l1Long]
  generalize hM : (yo S).drop (p + 1) = R at ha
  have hlen : R.length = S.size - (p + 1) := by rw [← hM, List.length_drop, ← hL]
  have hRr : ∀ u ∈ R, 0 ≤ u ∧ u < 256 := fun u hu => hr u (List.mem_of_mem_drop (by rw [hM]; exact hu))
  rw [wrapS (n := (p : Int) + l1L a) (by unfold l1L; repeat' split <;> omega) (by unfold l1L; repeat' split <;> omega)]
  by_cases c1 : a < 128
  · -- one byte
    have e1 : l1L a = 1 := by unfold l1L; rw [if_pos c1]
    rw [e1, ha]
    have d1 : decide ((p : Int) + 1 > (S.size : Int)) = false := by rw [decide_eq_false_iff_not]; omega
    have e2 : dec (a :: R) = (a, 1) := by unfold dec; simp [c1]
    rw [e2]
    have g := p_specRune a
    have hg : okRune a = true := by simp only [okRune, Bool.and_eq_true, decide_eq_true_eq, Bool.not_eq_true', Bool.and_eq_false_iff, decide_eq_false_iff_not]; omega
    obtain ⟨T, t1, t2⟩ := cutS_at S (a := p) (b := p + 1) (by omega) (by omega)
    rw [show ((p + 1 : Nat) : Int) = (p : Int) + 1 by omega] at t1
    have t3 : yo T = [a] := by
      rw [t2, List.drop_take, ha]
      simp
    have u1 : u8s a = [a] := by unfold u8s; rw [if_pos c1]
    simp [d1, zd.l1, g, hg, t1, p_l1Utf8 a (by omega) (by omega), strB, t3, u1, bytes_text [a] (by simp; omega), wrapS (n := a) (by omega) (by omega)]
  by_cases c0 : l1L a = 0
  · rw [c0, ha]
    have e2 : dec (a :: R) = (65533, 1) := by
      have : u8n a = 1 := by unfold l1L at c0; unfold u8n; repeat' split at c0 <;> first | omega | (repeat' split <;> omega)
      unfold dec
      simp [c1, this]
    rw [e2]
    simp
  -- more bytes
  obtain ⟨m, hm⟩ : ∃ m : Nat, l1L a = m := ⟨(l1L a).toNat, by unfold l1L at *; repeat' split <;> omega⟩
  have hm2 : 2 ≤ m ∧ m ≤ 4 := by unfold l1L at *; repeat' split at hm <;> omega
  have hne : ((l1L a) == 0) = false := by simpa using c0
  simp only [hne, Bool.false_eq_true, if_false, Option.bind_some]
  rw [hm]
  by_cases hpm : p + m ≤ S.size
  case neg =>
    have d1 : decide ((p : Int) + m > (S.size : Int)) = true := by rw [decide_eq_true_eq]; omega
    simp only [d1, if_true]
    rw [ha]
    congr 1
    symm
    unfold dec
    have hl1 : R.length < m - 1 := by omega
    have g0 : (a :: R).getD 0 0 = a := rfl
    have g1 : (a :: R).getD 1 0 = R.getD 0 0 := rfl
    have g2 : (a :: R).getD 2 0 = R.getD 1 0 := rfl
    have g3 : (a :: R).getD 3 0 = R.getD 2 0 := rfl
    simp only [g0, g1, g2, g3, c1, if_false]
    have z : ∀ i, R.length ≤ i → R.getD i 0 = 0 := fun i hi => by simp [List.getD, List.getElem?_eq_none hi]
    have s0 : ∀ b, b = 0 → ¬ sndOk a b := fun b hb h => by unfold sndOk u8lo at h; repeat' split at h <;> omega
    have s1 : ∀ b, b = 0 → ¬ cont b := fun b hb h => by unfold cont at h; omega
    have hl1L : l1L a = m := hm
    rcases (show m = 2 ∨ m = 3 ∨ m = 4 by omega) with rfl | rfl | rfl
    · have := s0 _ (z 0 (by omega))
      simp only [this, and_false, false_and, if_false]
    · have := s1 _ (z 1 (by omega))
      have h2 : u8n a ≠ 2 := by unfold l1L at hl1L; unfold u8n; repeat' split at hl1L <;> first | omega | (repeat' split <;> omega)
      simp only [this, h2, and_false, false_and, if_false]
    · have := s1 _ (z 2 (by omega))
      have h2 : u8n a ≠ 2 ∧ u8n a ≠ 3 := by unfold l1L at hl1L; unfold u8n; repeat' split at hl1L <;> first | omega | (repeat' split <;> omega)
      simp only [this, h2.1, h2.2, and_false, false_and, if_false]
  have d1 : decide ((p : Int) + m > (S.size : Int)) = false := by rw [decide_eq_false_iff_not]; omega
  have d2 : decide ((m : Int) > 1) = true := by rw [decide_eq_true_eq]; omega
  simp only [d1, d2, Bool.false_eq_true, if_false, if_true]
  rw [wrapS (n := a) (by omega) (by omega)]
  have hsh : ∃ q, shlK? .i64 1 (IntKind.u64.wrap (IntKind.i64.wrap (7 - (m : Int)))) = some q ∧ q = 2 ^ (7 - m) := by
    rcases (show m = 2 ∨ m = 3 ∨ m = 4 by omega) with rfl | rfl | rfl 
    · exact ⟨32, by decide +kernel, by decide⟩
    · exact ⟨16, by decide +kernel, by decide⟩
    · exact ⟨8, by decide +kernel, by decide⟩
  obtain ⟨q, q1, q2⟩ := hsh
  rw [q1]
  simp only [Option.bind_some]
  have hq : 1 ≤ q := by rcases (show m = 2 ∨ m = 3 ∨ m = 4 by omega) with rfl | rfl | rfl <;> rw [q2] <;> decide
  rw [rem_pos (by omega) hq]
  simp only [Option.bind_some]
  have hMl : (a :: R).length = S.size - p := by simp; omega
  rcases (show m = 2 ∨ m = 3 ∨ m = 4 by omega) with rfl | rfl | rfl
  · have q3 : q = 32 := by rw [q2]; decide
    subst q3
    match hR : R, hlen with
    | [], hl => simp at hl; omega
    | b :: R', hl =>
      have hb := hRr b (by simp)
      have la : 192 ≤ a ∧ a < 224 := by unfold l1L at hm; repeat' split at hm <;> omega
      have st := l1At_step S p 2 hS 1 (by omega) (by omega) hpm b (by rw [ha]; rfl) (a % 32) (by omega) (by omega) 2
      rw [show (((2 : Nat) : Int) - 1).toNat + 2 = 3 from rfl]
      rw [show ((1 : Nat) : Int) = 1 from rfl] at st
      rw [st]
      rw [show ((1 + 1 : Nat) : Int) = ((2 : Nat) : Int) from rfl, l1At_end]
      simp only [Option.bind_some]
      have fin := l1At_fin S p 2 (a % 32 * 64 + b % 64) hpm (by omega) (by omega) (by omega) hS
      rw [fin, ha]
      congr 1
      have hu : (okRune (a % 32 * 64 + b % 64) = true ∧ u8s (a % 32 * 64 + b % 64) = [a, b]) ↔ (194 ≤ a ∧ cont b) := by
        unfold cont okRune u8s
        simp only [Bool.and_eq_true, decide_eq_true_eq, Bool.not_eq_true', Bool.and_eq_false_iff, decide_eq_false_iff_not]
        constructor
        · rintro ⟨_, h⟩
          split at h
          · simp at h
          · split at h
            · simp only [List.cons.injEq, and_true] at h; omega
            · split at h <;> simp at h
        · rintro ⟨h1, h2⟩
          refine ⟨by omega, ?_⟩
          rw [if_neg (by omega), if_pos (by omega)]
          simp only [List.cons.injEq, and_true]
          omega
      have e3 : List.take 2 (a :: b :: R') = [a, b] := rfl
      rw [e3]
      unfold dec
      have g0 : (a :: b :: R').getD 0 0 = a := rfl
      have g1 : (a :: b :: R').getD 1 0 = b := rfl
      simp only [g0, g1, c1, if_false]
      have hs : (u8n a = 2 ∧ sndOk a b) ↔ (194 ≤ a ∧ cont b) := by
        have : u8lo a = 128 ∧ u8hi a = 191 := by unfold u8lo u8hi; constructor <;> repeat' split <;> omega
        unfold sndOk cont
        rw [this.1, this.2]
        unfold u8n
        constructor
        · rintro ⟨h, h2⟩
          repeat' split at h <;> first | omega | exact ⟨by omega, h2⟩
        · rintro ⟨h, h2⟩
          rw [if_pos (by omega)]
          exact ⟨rfl, h2⟩
      by_cases h : 194 ≤ a ∧ cont b
      · rw [if_pos (hu.2 h), if_pos (hs.2 h)]
        unfold cont at h
        congr 1
        omega
      · rw [if_neg (fun h' => h (hu.1 h')), if_neg (fun h' => h (hs.1 h'))]
        have n3 : u8n a ≠ 3 ∧ u8n a ≠ 4 := by unfold u8n; repeat' split <;> omega
        simp [n3]
  · have q3 : q = 16 := by rw [q2]; decide
    subst q3
    match hR : R, hlen with
    | [], hl => simp at hl; omega
    | [b], hl => simp at hl; omega
    | b :: c :: R', hl =>
      have hb := hRr b (by simp)
      have hc := hRr c (by simp)
      have la : 224 ≤ a ∧ a < 240 := by unfold l1L at hm; repeat' split at hm <;> omega
      have st := l1At_step S p 3 hS 1 (by omega) (by omega) hpm b (by rw [ha]; rfl) (a % 16) (by omega) (by omega) 3
      have st2 := l1At_step S p 3 hS 2 (by omega) (by omega) hpm c (by rw [ha]; rfl) (a % 16 * 64 + b % 64) (by omega) (by omega) 2
      rw [show (((3 : Nat) : Int) - 1).toNat + 2 = 4 from rfl]
      rw [show ((1 : Nat) : Int) = 1 from rfl] at st
      rw [st, show ((1 + 1 : Nat) : Int) = ((2 : Nat) : Int) from rfl, st2, show ((2 + 1 : Nat) : Int) = ((3 : Nat) : Int) from rfl, l1At_end]
      simp only [Option.bind_some]
      have fin := l1At_fin S p 3 ((a % 16 * 64 + b % 64) * 64 + c % 64) hpm (by omega) (by omega) (by omega) hS
      rw [fin, ha]
      congr 1
      have hu : (okRune ((a % 16 * 64 + b % 64) * 64 + c % 64) = true ∧ u8s ((a % 16 * 64 + b % 64) * 64 + c % 64) = [a, b, c]) ↔ (sndOk a b ∧ cont c) := by
        unfold sndOk u8lo u8hi cont okRune u8s
        simp only [Bool.and_eq_true, decide_eq_true_eq, Bool.not_eq_true', Bool.and_eq_false_iff, decide_eq_false_iff_not]
        constructor
        · rintro ⟨_, h⟩
          split at h
          · simp at h
          · split at h
            · simp at h
            · split at h
              · simp only [List.cons.injEq, and_true] at h; repeat' split <;> omega
              · simp at h
        · rintro ⟨h1, h2⟩
          have h3 : (a = 224 → 160 ≤ b) ∧ (a = 237 → b ≤ 159) ∧ 128 ≤ b ∧ b ≤ 191 := by
            repeat' split at h1 <;> omega
          refine ⟨by omega, ?_⟩
          rw [if_neg (by omega), if_neg (by omega), if_pos (by omega)]
          simp only [List.cons.injEq, and_true]
          omega
      have e3 : List.take 3 (a :: b :: c :: R') = [a, b, c] := rfl
      rw [e3]
      unfold dec
      have g0 : (a :: b :: c :: R').getD 0 0 = a := rfl
      have g1 : (a :: b :: c :: R').getD 1 0 = b := rfl
      have g2 : (a :: b :: c :: R').getD 2 0 = c := rfl
      have n3 : u8n a = 3 := by unfold u8n; rw [if_neg (by omega), if_pos (by omega)]
      simp only [g0, g1, g2, c1, if_false, n3]
      by_cases h : sndOk a b ∧ cont c
      · rw [if_pos (hu.2 h)]
        have h2 := h
        unfold sndOk u8lo u8hi cont at h2
        simp only [h.1, h.2, and_true, true_and, if_true, show ¬ ((3 : Int) = 2) by decide, false_and, if_false]
        congr 1
        have h3 : 128 ≤ b ∧ b ≤ 191 := by obtain ⟨h1, _⟩ := h2; repeat' split at h1 <;> omega
        omega
      · rw [if_neg (fun h' => h (hu.1 h'))]
        simp [h]
  · have q3 : q = 8 := by rw [q2]; decide
    subst q3
    match hR : R, hlen with
    | [], hl => simp at hl; omega
    | [b], hl => simp at hl; omega
    | [b, c], hl => simp at hl; omega
    | b :: c :: d :: R', hl =>
      have hb := hRr b (by simp)
      have hc := hRr c (by simp)
      have hd := hRr d (by simp)
      have la : 240 ≤ a ∧ a < 248 := by unfold l1L at hm; repeat' split at hm <;> omega
      have st := l1At_step S p 4 hS 1 (by omega) (by omega) hpm b (by rw [ha]; rfl) (a % 8) (by omega) (by omega) 4
      have st2 := l1At_step S p 4 hS 2 (by omega) (by omega) hpm c (by rw [ha]; rfl) (a % 8 * 64 + b % 64) (by omega) (by omega) 3
      have st3 := l1At_step S p 4 hS 3 (by omega) (by omega) hpm d (by rw [ha]; rfl) ((a % 8 * 64 + b % 64) * 64 + c % 64) (by omega) (by omega) 2
      rw [show (((4 : Nat) : Int) - 1).toNat + 2 = 5 from rfl]
      rw [show ((1 : Nat) : Int) = 1 from rfl] at st
      rw [st, show ((1 + 1 : Nat) : Int) = ((2 : Nat) : Int) from rfl, st2, show ((2 + 1 : Nat) : Int) = ((3 : Nat) : Int) from rfl, st3, show ((3 + 1 : Nat) : Int) = ((4 : Nat) : Int) from rfl, l1At_end]
      simp only [Option.bind_some]
      have fin := l1At_fin S p 4 (((a % 8 * 64 + b % 64) * 64 + c % 64) * 64 + d % 64) hpm (by omega) (by omega) (by omega) hS
      rw [fin, ha]
      congr 1
      have hu : (okRune (((a % 8 * 64 + b % 64) * 64 + c % 64) * 64 + d % 64) = true ∧ u8s (((a % 8 * 64 + b % 64) * 64 + c % 64) * 64 + d % 64) = [a, b, c, d]) ↔ (a ≤ 244 ∧ sndOk a b ∧ cont c ∧ cont d) := by
        unfold sndOk u8lo u8hi cont okRune u8s
        simp only [Bool.and_eq_true, decide_eq_true_eq, Bool.not_eq_true', Bool.and_eq_false_iff, decide_eq_false_iff_not]
        constructor
        · rintro ⟨_, h⟩
          split at h
          · simp at h
          · split at h
            · simp at h
            · split at h
              · simp at h
              · simp only [List.cons.injEq, and_true] at h; repeat' split <;> omega
        · rintro ⟨h0, h1, h2, h4⟩
          have h3 : (a = 240 → 144 ≤ b) ∧ (a = 244 → b ≤ 143) ∧ 128 ≤ b ∧ b ≤ 191 := by
            repeat' split at h1 <;> omega
          refine ⟨by omega, ?_⟩
          rw [if_neg (by omega), if_neg (by omega), if_neg (by omega)]
          simp only [List.cons.injEq, and_true]
          omega
      have e3 : List.take 4 (a :: b :: c :: d :: R') = [a, b, c, d] := rfl
      rw [e3]
      unfold dec
      have g0 : (a :: b :: c :: d :: R').getD 0 0 = a := rfl
      have g1 : (a :: b :: c :: d :: R').getD 1 0 = b := rfl
      have g2 : (a :: b :: c :: d :: R').getD 2 0 = c := rfl
      have g3 : (a :: b :: c :: d :: R').getD 3 0 = d := rfl
      have n3 : (u8n a = 4 ↔ a ≤ 244) ∧ u8n a ≠ 2 ∧ u8n a ≠ 3 := by unfold u8n; rw [if_neg (by omega), if_neg (by omega)]; split <;> omega
      simp only [g0, g1, g2, g3, c1, if_false, n3.1, n3.2.1, n3.2.2, false_and]
      by_cases h : a ≤ 244 ∧ sndOk a b ∧ cont c ∧ cont d
      · rw [if_pos (hu.2 h), if_pos h]
        have h2 := h
        unfold sndOk u8lo u8hi cont at h2
        congr 1
        have h3 : 128 ≤ b ∧ b ≤ 191 := by obtain ⟨_, h1, _⟩ := h2; repeat' split at h1 <;> omega
        omega
      · rw [if_neg (fun h' => h (hu.1 h')), if_neg h]
theorem p_full (S : ByteArray) (hne : yo S ≠ []) : zy.f S = some (!begB (yo S)) := by
  unfold zy.f
  have hr := bytes_rng S
  have h0 := rdS_at S 0
  have h1 := rdS_at S 1
  have h2 := rdS_at S 2
  rw [show ((0 : Nat) : Int) = 0 from rfl] at h0
  rw [show ((1 : Nat) : Int) = 1 from rfl] at h1
  rw [show ((2 : Nat) : Int) = 2 from rfl] at h2
  have hs := size_bytes S
  generalize yo S = L at *
  rw [h0, hs, h1, h2]
  cases L with
  | nil => exact absurd rfl hne
  | cons a r =>
    obtain ⟨v, v1, v2, v3⟩ := tab_of (hr a (by simp)).1 (hr a (by simp)).2
    rw [if_neg (by simp; omega)]
    simp only [List.getElem?_cons_zero, Option.bind_some, v1, v2]
    have hu := u8n_le a
    by_cases hn : ((a :: r).length : Int) ≥ u8n a
    · rw [if_pos (by simpa using hn)]
      have e : begB (a :: r) = false := by
        match r, hn with
        | [], hn => simp [begB] at hn ⊢; omega
        | [b], hn => simp [begB] at hn ⊢; omega
        | [b, c], hn => simp [begB] at hn ⊢; omega
        | b :: c :: d :: t, _ => rfl
      rw [e]
      rfl
    · rw [if_neg (by simpa using hn)]
      obtain ⟨k, k1, k2⟩ := v3 (by simp at hn; omega)
      rw [k1]
      simp only [Option.bind_some, k2]
      match r, hn with
      | [], hn =>
        have : (2 : Int) ≤ u8n a := by simp at hn; omega
        simp [begB, this]
      | [b], hn =>
        have h3 : (3 : Int) ≤ u8n a := by simp at hn; omega
        simp only [List.length_cons, List.length_nil, List.getElem?_cons_succ, List.getElem?_cons_zero, Option.bind_some]
        by_cases g1 : b < u8lo a
        · have : ¬ sndOk a b := fun h => by unfold sndOk at h; omega
          simp [begB, g1, this]
        · by_cases g2 : u8hi a < b
          · have : ¬ sndOk a b := fun h => by unfold sndOk at h; omega
            simp [begB, g1, g2, this]
          · have : sndOk a b := ⟨by omega, by omega⟩
            simp [begB, g1, g2, this, h3]
      | [b, c], hn =>
        have h3 : (4 : Int) ≤ u8n a := by simp at hn; omega
        simp only [List.length_cons, List.length_nil, List.getElem?_cons_succ, List.getElem?_cons_zero, Option.bind_some]
        by_cases g1 : b < u8lo a
        · have : ¬ sndOk a b := fun h => by unfold sndOk at h; omega
          simp [begB, g1, this]
        · by_cases g2 : u8hi a < b
          · have : ¬ sndOk a b := fun h => by unfold sndOk at h; omega
            simp [begB, g1, g2, this]
          · have hs2 : sndOk a b := ⟨by omega, by omega⟩
            by_cases g3 : c < 128
            · have : ¬ cont c := fun h => by unfold cont at h; omega
              simp [begB, g1, g2, g3, this]
            · by_cases g4 : 191 < c
              · have : ¬ cont c := fun h => by unfold cont at h; omega
                simp [begB, g1, g2, g3, g4, this]
              · have : cont c := ⟨by omega, by omega⟩
                simp [begB, g1, g2, g3, g4, this, hs2, h3]
      | b :: c :: d :: t, hn => simp at hn; omega
theorem p_begun (S : ByteArray) : zz.f S = some (begB (yo S)) := by
  unfold zz.f
  rw [strB, bytes_nil]
  by_cases h : yo S = []
  · simp [h, begB]
  · rw [p_full S h]
    simp [h]
theorem dec_snd (M : List Int) : 1 < (dec M).2 ↔ 128 ≤ M.getD 0 0 ∧ ((u8n (M.getD 0 0) = 2 ∧ sndOk (M.getD 0 0) (M.getD 1 0)) ∨ (u8n (M.getD 0 0) = 3 ∧ sndOk (M.getD 0 0) (M.getD 1 0) ∧ cont (M.getD 2 0)) ∨ (u8n (M.getD 0 0) = 4 ∧ sndOk (M.getD 0 0) (M.getD 1 0) ∧ cont (M.getD 2 0) ∧ cont (M.getD 3 0))) := by
  unfold dec
  generalize M.getD 0 0 = a
  generalize M.getD 1 0 = b
  generalize M.getD 2 0 = c
  generalize M.getD 3 0 = d
  dsimp only
  by_cases h0 : a < 128
  · rw [if_pos h0]
    constructor
    · intro h; simp at h
    · intro h; omega
  rw [if_neg h0]
  by_cases h1 : u8n a = 2 ∧ sndOk a b
  · rw [if_pos h1]
    exact ⟨fun _ => ⟨by omega, .inl h1⟩, fun _ => by simp⟩
  rw [if_neg h1]
  by_cases h2 : u8n a = 3 ∧ sndOk a b ∧ cont c
  · rw [if_pos h2]
    exact ⟨fun _ => ⟨by omega, .inr (.inl h2)⟩, fun _ => by simp⟩
  rw [if_neg h2]
  by_cases h3 : u8n a = 4 ∧ sndOk a b ∧ cont c ∧ cont d
  · rw [if_pos h3]
    exact ⟨fun _ => ⟨by omega, .inr (.inr h3)⟩, fun _ => by simp⟩
  rw [if_neg h3]
  constructor
  · intro h; simp at h
  · rintro ⟨_, h | h | h⟩
    · exact absurd h h1
    · exact absurd h h2
    · exact absurd h h3
theorem p_fill (S : ByteArray) (a : Int) (r : List Int) (hS : yo S = a :: r) (m f : Nat) (hm : l1L a = m) (hm4 : m ≤ 4) (hf : 128 ≤ f) (hf2 : f < 192) : ∀ (k j : Nat) (X : ByteArray), yo X = (a :: r) ++ List.replicate j (f : Int) → (a :: r).length + j ≤ m → m - ((a :: r).length + j) < k → ∃ T, ze.l2 S (f : Int) k X = some T ∧ yo T = (a :: r) ++ List.replicate (m - (a :: r).length) (f : Int) := by
  intro k
  induction k with
  | zero => intro j X _ _ h; omega
  | succ k ih =>
    intro j X hX hj hk
    have hx := size_bytes X
    rw [hX, List.length_append, List.length_replicate] at hx
    rw [ze.l2]
    have h0 := rdS_at S 0
    rw [hS] at h0
    rw [show ((0 : Nat) : Int) = 0 from rfl] at h0
    rw [h0]
    simp only [List.getElem?_cons_zero, Option.bind_some, p_l1Long, hm]
    by_cases hlt : X.size < m
    · rw [if_pos (by rw [decide_eq_true_eq]; omega), w8 (by omega) (by omega)]
      have hb1 : yo (textB [(f : Int)]) = [(f : Int)] := bytes_text _ (by simp; omega)
      have hz : (textB [(f : Int)]).size = 1 := by rw [size_bytes, hb1]; rfl
      obtain ⟨c, c1, c2⟩ := cat_at (n := 1000000000000) (a := X) (b := textB [(f : Int)]) (by omega)
      rw [c1]
      simp only [Option.bind_some]
      refine ih (j + 1) c ?_ (by omega) (by omega)
      rw [c2, hX, hb1, List.append_assoc, List.replicate_succ']
    · rw [if_neg (by rw [decide_eq_true_eq]; omega)]
      refine ⟨X, rfl, ?_⟩
      rw [hX]
      congr 2
      omega
theorem p_begLoop (S : ByteArray) (a : Int) (r : List Int) (hS : yo S = a :: r) (m : Nat) (hm : l1L a = m) (hm4 : m ≤ 4) (hn : (a :: r).length ≤ m) : ∀ (k f : Nat), 128 ≤ f → f ≤ 192 → 192 - f < k → ∃ o, ze.l1 S k (f : Int) = some o ∧ ((o = .ret true ∧ ∃ g : Nat, f ≤ g ∧ g < 192 ∧ 1 < (dec ((a :: r) ++ List.replicate (m - (a :: r).length) (g : Int))).2) ∨ (o = .go () ∧ ∀ g : Nat, f ≤ g → g < 192 → ¬ 1 < (dec ((a :: r) ++ List.replicate (m - (a :: r).length) (g : Int))).2)) := by
  intro k
  induction k with
  | zero => intro f _ _ h; omega
  | succ k ih =>
    intro f hf hf2 hk
    rw [ze.l1]
    by_cases hlt : f < 192
    · rw [if_pos (by rw [decide_eq_true_eq]; omega)]
      obtain ⟨T, t1, t2⟩ := p_fill S a r hS m f hm hm4 hf hlt 8 0 S (by rw [hS]; simp) (by omega) (by omega)
      rw [t1]
      simp only [Option.bind_some]
      have hT := size_bytes T
      rw [t2, List.length_append, List.length_replicate] at hT
      have hl1 : (a :: r).length = r.length + 1 := rfl
      have e := p_l1At T 0 (by omega) (by omega)
      rw [show ((0 : Nat) : Int) = 0 from rfl, t2, List.drop_zero] at e
      rw [e]
      simp only [Option.bind_some]
      by_cases hV : 1 < (dec ((a :: r) ++ List.replicate (m - (a :: r).length) (f : Int))).2
      · rw [if_pos (by rw [decide_eq_true_eq]; exact hV)]
        exact ⟨_, rfl, .inl ⟨rfl, f, Nat.le_refl _, hlt, hV⟩⟩
      · rw [if_neg (by rw [decide_eq_true_eq]; exact hV)]
        simp only [Option.bind_some]
        rw [wrapN f (by omega)]
        obtain ⟨o, o1, o2⟩ := ih (f + 1) (by omega) (by omega) (by omega)
        refine ⟨o, o1, ?_⟩
        rcases o2 with ⟨p1, g, p2, p3, p4⟩ | ⟨p1, p2⟩
        · exact .inl ⟨p1, g, by omega, p3, p4⟩
        · refine .inr ⟨p1, fun g h1 h2 => ?_⟩
          by_cases hg : g = f
          · rw [hg]; exact hV
          · exact p2 g (by omega) h2
    · rw [if_neg (by rw [decide_eq_true_eq]; omega)]
      exact ⟨_, rfl, .inr ⟨rfl, fun g h1 h2 => by omega⟩⟩
theorem lo_ok (a : Int) : sndOk a (u8lo a) ∧ cont (u8lo a) := by
  unfold sndOk cont u8lo u8hi
  repeat' split <;> omega
theorem u8n_L (a : Int) : (2 ≤ u8n a → l1L a = u8n a ∧ 128 ≤ a) ∧ (u8n a < 2 → True) := by
  refine ⟨fun h => ?_, fun _ => trivial⟩
  unfold u8n l1L at *
  repeat' split at h <;> first | omega | (repeat' split <;> omega)
theorem p_specBegun (S : ByteArray) : ze.f S = some (begB (yo S)) := by
  unfold ze.f
  have hs := size_bytes S
  have h0 := rdS_at S 0
  rw [show ((0 : Nat) : Int) = 0 from rfl] at h0
  have hr := bytes_rng S
  cases hL : yo S with
  | nil =>
    rw [hL] at hs
    have : (S.size : Int) = 0 := by rw [hs]; rfl
    simp [this, begB]
  | cons a r =>
    rw [hL] at hs h0 hr
    have n0 : ((S.size : Int) == 0) = false := by rw [beq_eq_false_iff_ne, hs]; simp; omega
    by_cases h3 : S.size > 3
    · have d3 : decide ((S.size : Int) > 3) = true := by rw [decide_eq_true_eq]; omega
      have e : begB (a :: r) = false := by
        match r, hs with
        | [], hs => simp at hs; omega
        | [_], hs => simp at hs; omega
        | [_, _], hs => simp at hs; omega
        | _ :: _ :: _ :: _, _ => rfl
      simp [n0, d3, e]
    have d3 : decide ((S.size : Int) > 3) = false := by rw [decide_eq_false_iff_not]; omega
    rw [h0]
    simp only [n0, d3, Bool.false_eq_true, if_false, List.getElem?_cons_zero, Option.bind_some, p_l1Long]
    have un := u8n_L a
    by_cases hle : l1L a ≤ (S.size : Int)
    · have e : begB (a :: r) = false := by
        match r, hs with
        | [], hs =>
          simp only [begB, decide_eq_false_iff_not]
          intro h
          have := (un.1 h).1
          simp at hs
          omega
        | [b], hs =>
          simp only [begB, Bool.and_eq_false_iff, decide_eq_false_iff_not]
          left
          intro h
          have := (un.1 (by omega)).1
          simp at hs
          omega
        | [b, c], hs =>
          simp only [begB, Bool.and_eq_false_iff, decide_eq_false_iff_not]
          left
          intro h
          have := (un.1 (by omega)).1
          simp at hs
          omega
        | _ :: _ :: _ :: _, _ => rfl
      simp [hle, e]
    simp only [hle, decide_false, Bool.false_eq_true, if_false]
    obtain ⟨m, hm⟩ : ∃ m : Nat, l1L a = m := ⟨(l1L a).toNat, by unfold l1L; repeat' split <;> omega⟩
    have hm4 : m ≤ 4 := by unfold l1L at hm; repeat' split at hm <;> omega
    have hlen : (a :: r).length = r.length + 1 := rfl
    obtain ⟨o, o1, o2⟩ := p_begLoop S a r hL m hm hm4 (by omega) (((192 : Int) - (128)).toNat + 2) 128 (by omega) (by omega) (by decide)
    rw [show ((128 : Nat) : Int) = 128 from rfl] at o1
    rw [o1]
    simp only [Option.bind_some]
    have key : (∃ g : Nat, 128 ≤ g ∧ g < 192 ∧ 1 < (dec ((a :: r) ++ List.replicate (m - (a :: r).length) (g : Int))).2) ↔ begB (a :: r) = true := by
      have lo := lo_ok a
      have lob : 128 ≤ u8lo a ∧ u8lo a < 192 := by unfold u8lo; repeat' split <;> omega
      obtain ⟨g0, hg0⟩ := Int.eq_ofNat_of_zero_le (show 0 ≤ u8lo a by omega)
      have hcg : ∀ g : Nat, 128 ≤ g → g < 192 → cont (g : Int) := fun g h1 h2 => by unfold cont; omega
      match r, hs, hm with
      | [], hs, hm =>
        simp only [List.length_cons, List.length_nil] at hs
        simp only [begB, decide_eq_true_eq]
        constructor
        · rintro ⟨g, g1, g2, g3⟩
          rw [dec_snd] at g3
          have e0 : ([a] ++ List.replicate (m - 1) (g : Int)).getD 0 0 = a := rfl
          simp only [List.length_cons, List.length_nil, Nat.zero_add] at g3
          rw [e0] at g3
          omega
        · intro h
          have hu := un.1 h
          refine ⟨g0, by omega, by omega, ?_⟩
          rw [dec_snd]
          simp only [List.length_cons, List.length_nil, Nat.zero_add]
          have e0 : ([a] ++ List.replicate (m - 1) (g0 : Int)).getD 0 0 = a := rfl
          rw [e0]
          refine ⟨hu.2, ?_⟩
          rw [hg0] at lo
          have hu4 := u8n_le a
          rcases (show m = 2 ∨ m = 3 ∨ m = 4 by omega) with rfl | rfl | rfl
          · exact .inl ⟨by omega, lo.1⟩
          · exact .inr (.inl ⟨by omega, lo.1, lo.2⟩)
          · exact .inr (.inr ⟨by omega, lo.1, lo.2, lo.2⟩)
      | [b], hs, hm =>
        simp only [List.length_cons, List.length_nil] at hs
        simp only [begB, Bool.and_eq_true, decide_eq_true_eq]
        constructor
        · rintro ⟨g, g1, g2, g3⟩
          rw [dec_snd] at g3
          simp only [List.length_cons, List.length_nil, Nat.zero_add] at g3
          have e0 : ([a, b] ++ List.replicate (m - 2) (g : Int)).getD 0 0 = a := rfl
          have e1 : ([a, b] ++ List.replicate (m - 2) (g : Int)).getD 1 0 = b := rfl
          rw [show m - (1 + 1) = m - 2 from rfl, e0, e1] at g3
          obtain ⟨k0, k | k | k⟩ := g3
          · have := (un.1 (by omega)).1; omega
          · exact ⟨by omega, k.2.1⟩
          · exact ⟨by omega, k.2.1⟩
        · rintro ⟨h, h2⟩
          have hu := un.1 (by omega)
          refine ⟨128, by omega, by omega, ?_⟩
          rw [dec_snd]
          simp only [List.length_cons, List.length_nil, Nat.zero_add]
          have e0 : ([a, b] ++ List.replicate (m - 2) ((128 : Nat) : Int)).getD 0 0 = a := rfl
          have e1 : ([a, b] ++ List.replicate (m - 2) ((128 : Nat) : Int)).getD 1 0 = b := rfl
          rw [show m - (1 + 1) = m - 2 from rfl, e0, e1]
          refine ⟨hu.2, ?_⟩
          have hu4 := u8n_le a
          have c128 := hcg 128 (by omega) (by omega)
          rcases (show m = 3 ∨ m = 4 by omega) with rfl | rfl
          · exact .inr (.inl ⟨by omega, h2, c128⟩)
          · exact .inr (.inr ⟨by omega, h2, c128, c128⟩)
      | [b, c], hs, hm =>
        simp only [List.length_cons, List.length_nil] at hs
        simp only [begB, Bool.and_eq_true, decide_eq_true_eq]
        constructor
        · rintro ⟨g, g1, g2, g3⟩
          rw [dec_snd] at g3
          simp only [List.length_cons, List.length_nil, Nat.zero_add] at g3
          have e0 : ([a, b, c] ++ List.replicate (m - 3) (g : Int)).getD 0 0 = a := rfl
          have e1 : ([a, b, c] ++ List.replicate (m - 3) (g : Int)).getD 1 0 = b := rfl
          have e2 : ([a, b, c] ++ List.replicate (m - 3) (g : Int)).getD 2 0 = c := rfl
          rw [show m - (1 + 1 + 1) = m - 3 from rfl, e0, e1, e2] at g3
          obtain ⟨k0, k | k | k⟩ := g3
          · have := (un.1 (by omega)).1; omega
          · have := (un.1 (by omega)).1; omega
          · exact ⟨by omega, k.2.1, k.2.2.1⟩
        · rintro ⟨h, h2, h4⟩
          have hu := un.1 (by omega)
          refine ⟨128, by omega, by omega, ?_⟩
          rw [dec_snd]
          simp only [List.length_cons, List.length_nil, Nat.zero_add]
          have e0 : ([a, b, c] ++ List.replicate (m - 3) ((128 : Nat) : Int)).getD 0 0 = a := rfl
          have e1 : ([a, b, c] ++ List.replicate (m - 3) ((128 : Nat) : Int)).getD 1 0 = b := rfl
          have e2 : ([a, b, c] ++ List.replicate (m - 3) ((128 : Nat) : Int)).getD 2 0 = c := rfl
          rw [show m - (1 + 1 + 1) = m - 3 from rfl, e0, e1, e2]
          refine ⟨hu.2, ?_⟩
          have hu4 := u8n_le a
          have c128 := hcg 128 (by omega) (by omega)
          obtain rfl : m = 4 := by omega
          exact .inr (.inr ⟨by omega, h2, h4, c128⟩)
      | _ :: _ :: _ :: _, hs, _ => simp at hs; omega
    rcases o2 with ⟨rfl, p2⟩ | ⟨rfl, p2⟩
    · rw [key.1 p2]
    · have : begB (a :: r) = false := by
        cases hb : begB (a :: r) with
        | false => rfl
        | true =>
          obtain ⟨g, g1, g2, g3⟩ := key.2 hb
          exact absurd g3 (p2 g g1 g2)
      rw [this]
theorem p_l1All (p : List Int) (a b : Int) (hp : p.length ≤ big) : zk.f p a b = some (p.all fun u => decide (a ≤ u) && decide (u ≤ b)) := by
  unfold zk.f
  have := all_loop p hp (fun u => !(decide (a ≤ u) && decide (u ≤ b))) false (zk.l1 p a b) (fun k i => by rw [zk.l1]; simp only [p_l1In, Option.bind_some]) (((p.length : Int) - 0).toNat + 2) 0 (by omega) (by omega)
  rw [show ((0 : Nat) : Int) = 0 from rfl] at this
  rw [this, List.drop_zero]
  have e : p.any (fun u => !(decide (a ≤ u) && decide (u ≤ b))) = !p.all fun u => decide (a ≤ u) && decide (u ≤ b) := by rw [List.all_eq_not_any_not]; simp
  rw [e]
  cases h : p.all fun u => decide (a ≤ u) && decide (u ≤ b) <;> simp
theorem mul_le160 {w h : Int} (h1 : 1 ≤ w) (h2 : w ≤ 20) (h3 : 1 ≤ h) (h4 : h ≤ 8) : 1 ≤ w * h ∧ w * h ≤ 160 := by
  have a := Int.mul_le_mul h2 h4 (by omega) (by omega)
  have b := Int.mul_le_mul h1 h3 (by omega) (by omega)
  omega
theorem p_or (u v : Nat) (hu : u < 256) (hv : v < 256) : bits .or .i64 ((u : Int) * 256) (v : Int) = (u : Int) * 256 + v := by
  unfold bits
  have e1 : BitVec.ofInt IntKind.i64.bits ((u : Int) * 256) = BitVec.ofNat 64 (256 * u) := by
    show BitVec.ofInt 64 _ = _
    rw [show (u : Int) * 256 = ((256 * u : Nat) : Int) by omega]
    exact BitVec.ofInt_natCast 64 _
  have e2 : BitVec.ofInt IntKind.i64.bits (v : Int) = BitVec.ofNat 64 v := BitVec.ofInt_natCast 64 _
  rw [e1, e2]
  dsimp only
  have e3 : (BitVec.ofNat 64 (256 * u) ||| BitVec.ofNat 64 v).toNat = 256 * u + v := by
    rw [BitVec.toNat_or, BitVec.toNat_ofNat, BitVec.toNat_ofNat, Nat.mod_eq_of_lt (by omega), Nat.mod_eq_of_lt (by omega)]
    exact (Nat.two_pow_add_eq_or_of_lt (i := 8) hv u).symm
  have e4 : (((BitVec.ofNat 64 (256 * u) ||| BitVec.ofNat 64 v).toNat : Nat) : Int) = ((256 * u + v : Nat) : Int) := by rw [e3]
  have key : IntKind.i64.wrap (((BitVec.ofNat 64 (256 * u) ||| BitVec.ofNat 64 v).toNat : Nat) : Int) = (u : Int) * 256 + v := by
    rw [e4, wrapS (by omega) (by omega)]
    omega
  exact key
def unitB (en : Int) (L : List Int) : Int := if en = 2 then L.getD 0 0 * 256 + L.getD 1 0 else L.getD 1 0 * 256 + L.getD 0 0
theorem sh8a : min (8 : Int).toNat IntKind.i64.bits = 8 := by decide
theorem sh8b : (2 : Int) ^ 8 = 256 := by decide
theorem sh8c (u : Nat) : shlK? .i64 (u : Int) 8 = some (IntKind.i64.wrap ((u : Int) * 2 ^ (min (8 : Int).toNat IntKind.i64.bits))) := by
  unfold shlK?
  exact if_pos (by omega)
theorem p_shl8 (u : Nat) (hu : u < 256) : shlK? .i64 (u : Int) 8 = some ((u : Int) * 256) := by
  rw [sh8c u, sh8a, sh8b, wrapS (by omega) (by omega)]
theorem bindE {α β : Type} {x : Option α} {f : α → Option β} {a : α} {b : Option β} (h : x = some a) (h2 : f a = b) : x.bind f = b := by subst h; exact h2
theorem unitGen (en a b A B ra rb : Int) (S : ByteArray) (h0 : rdS? S 0 = some a) (h1 : rdS? S 1 = some b) (sa : shlK? .i64 (IntKind.i64.wrap a) 8 = some A) (sb : shlK? .i64 (IntKind.i64.wrap b) 8 = some B) (oa : bits .or .i64 A (IntKind.i64.wrap b) = ra) (ob : bits .or .i64 B (IntKind.i64.wrap a) = rb) : z01.f en S = some (if en = 2 then ra else rb) := by
  unfold z01.f
  by_cases he : en = 2
  · rw [if_pos he]
    exact (if_pos (show (en == 2) = true by simpa using he)).trans (bindE h0 (bindE sa (bindE h1 (congrArg some oa))))
  · rw [if_neg he]
    exact (if_neg (show ¬ (en == 2) = true by simpa using he)).trans (bindE h1 (bindE sb (bindE h0 (congrArg some ob))))
theorem p_implUnit (en : Int) (S : ByteArray) (h2 : 2 ≤ S.size) : z01.f en S = some (unitB en (yo S)) := by
  have hs := size_bytes S
  have hr := bytes_rng S
  have h0 := rdS_at S 0
  have h1 := rdS_at S 1
  rw [show ((0 : Nat) : Int) = 0 from rfl] at h0
  rw [show ((1 : Nat) : Int) = 1 from rfl] at h1
  cases hL : yo S with
  | nil => rw [hL] at hs; simp only [List.length_nil] at hs; omega
  | cons a t =>
    cases t with
    | nil => rw [hL] at hs; simp only [List.length_cons, List.length_nil] at hs; omega
    | cons b r =>
      rw [hL] at h0 h1 hr
      have ha := hr a (List.mem_cons_self)
      have hb := hr b (List.mem_cons_of_mem _ List.mem_cons_self)
      have wa : IntKind.i64.wrap a = ((a.toNat : Nat) : Int) := by rw [wrapS (by omega) (by omega)]; omega
      have wb : IntKind.i64.wrap b = ((b.toNat : Nat) : Int) := by rw [wrapS (by omega) (by omega)]; omega
      have ea : ((a.toNat : Nat) : Int) = a := by omega
      have eb : ((b.toNat : Nat) : Int) = b := by omega
      have sa := p_shl8 a.toNat (by omega)
      have sb := p_shl8 b.toNat (by omega)
      have oa := p_or a.toNat b.toNat (by omega) (by omega)
      have ob := p_or b.toNat a.toNat (by omega) (by omega)
      rw [ea] at sa ob oa
      rw [eb] at sb oa ob
      rw [ea] at wa
      rw [eb] at wb
      refine (unitGen en a b (a * 256) (b * 256) (a * 256 + b) (b * 256 + a) S h0 h1 (by rw [wa]; exact sa) (by rw [wb]; exact sb) (by rw [wb]; exact oa) (by rw [wa]; exact ob)).trans ?_
      rfl
theorem p_specUnit (en : Int) (S : ByteArray) (h2 : 2 ≤ S.size) : zg.f en S = some (unitB en (yo S)) := by
  unfold zg.f unitB
  have hs := size_bytes S
  have hr := bytes_rng S
  have h0 := rdS_at S 0
  have h1 := rdS_at S 1
  rw [show ((0 : Nat) : Int) = 0 from rfl] at h0
  rw [show ((1 : Nat) : Int) = 1 from rfl] at h1
  rw [h0, h1]
  generalize yo S = L at *
  match L, hs with
  | [], hs => simp only [List.length_cons, List.length_nil] at hs; omega
  | [_], hs => simp only [List.length_cons, List.length_nil] at hs; omega
  | a :: b :: r, hs =>
    have hx := hr a (by simp)
    have hy := hr b (by simp)
    by_cases he : en = 2
    · simp [he, wrapS (n := a) (by omega) (by omega), wrapS (n := b) (by omega) (by omega), wrapS (n := a * 256) (by omega) (by omega), wrapS (n := a * 256 + b) (by omega) (by omega)]
    · simp [he, wrapS (n := a) (by omega) (by omega), wrapS (n := b) (by omega) (by omega), wrapS (n := b * 256) (by omega) (by omega), wrapS (n := b * 256 + a) (by omega) (by omega)]
/-- A good decoder. -/
def okDec (en sh lo : Int) (L : List Int) : Bool := (decide (1 ≤ en) && decide (en ≤ 5)) && (decide (0 ≤ sh) && decide (sh ≤ 1)) && (decide (0 ≤ lo) && decide (lo ≤ 1000)) && !(decide (en ≠ 5) && decide (0 < sh + lo)) &&
  (if L = [] then true else if en = 1 then begB L else if en = 2 ∨ en = 3 then decide (L.length ≤ 3) && (decide (L.length = 1) || (decide (55296 ≤ unitB en L) && decide (unitB en L ≤ 56319))) else false)
theorem p_implDec (en sh lo : Int) (S : ByteArray) : z03.f en sh lo S = some (okDec en sh lo (yo S)) := by
  unfold z03.f zx.f z00.f z02.f okDec
  have hs := size_bytes S
  simp only [p_inRange, Option.bind_some, strB, bytes_nil, p_begun]
  by_cases h1 : 1 ≤ en ∧ en ≤ 5
  · by_cases h2 : 0 ≤ sh ∧ sh ≤ 1
    · by_cases h3 : 0 ≤ lo ∧ lo ≤ 1000
      · rw [wrapS (n := sh + lo) (by omega) (by omega)]
        by_cases h4 : en ≠ 5 ∧ 0 < sh + lo
        · simp [h1, h2, h3, h4]
        · have e4 : (decide (en ≠ 5) && decide (0 < sh + lo)) = false := by
            rw [Bool.and_eq_false_iff, decide_eq_false_iff_not, decide_eq_false_iff_not]
            by_cases a : en = 5
            · left; simpa using a
            · right; intro b; exact h4 ⟨a, b⟩
          have e5 : (if (en != 5) = true then (some (decide (sh + lo > 0))) else (some false)) = some false := by
            by_cases a : en = 5
            · simp [a]
            · have : ¬ 0 < sh + lo := fun b => h4 ⟨a, b⟩
              simp [a]; omega
          simp only [h1, h2, h3, decide_true, Bool.and_self, Bool.not_true, Bool.false_eq_true, if_false, e5, Option.bind_some, e4, Bool.not_false, Bool.true_and]
          by_cases hL : yo S = []
          · simp [hL]
          · simp only [hL, decide_false, Bool.false_eq_true, if_false]
            by_cases he : en = 1
            · simp [he]
            · have he' : (en == 1) = false := by simpa using he
              simp only [he', he, Bool.false_eq_true, if_false]
              by_cases h23 : en = 2 ∨ en = 3
              · have hu : (if (en == 2) = true then (some true) else (some (en == 3))) = some true := by rcases h23 with h | h <;> simp [h]
                simp only [hu, Option.bind_some, if_true, h23]
                by_cases hl3 : S.size ≤ 3
                · have d1 : decide ((S.size : Int) ≤ 3) = true := by rw [decide_eq_true_eq]; omega
                  have d2 : decide ((yo S).length ≤ 3) = true := by rw [decide_eq_true_eq]; omega
                  simp only [d1, d2, if_true, Bool.true_and]
                  by_cases hl1 : S.size = 1
                  · have d3 : ((S.size : Int) == 1) = true := by rw [beq_iff_eq]; omega
                    have d4 : decide ((yo S).length = 1) = true := by rw [decide_eq_true_eq]; omega
                    simp [d3, d4]
                  · have d3 : ((S.size : Int) == 1) = false := by rw [beq_eq_false_iff_ne]; omega
                    have d4 : decide ((yo S).length = 1) = false := by rw [decide_eq_false_iff_not]; omega
                    have hne : (yo S).length ≠ 0 := fun h => hL (List.eq_nil_of_length_eq_zero h)
                    simp only [d3, d4, Bool.false_eq_true, if_false, Bool.false_or]
                    rw [p_implUnit en S (by omega)]
                    simp
                · have d1 : decide ((S.size : Int) ≤ 3) = false := by rw [decide_eq_false_iff_not]; omega
                  have d2 : decide ((yo S).length ≤ 3) = false := by rw [decide_eq_false_iff_not]; omega
                  simp [d1, d2]
              · have hu : (if (en == 2) = true then (some true) else (some (en == 3))) = some false := by
                  have a : en ≠ 2 := fun h => h23 (.inl h)
                  have b : en ≠ 3 := fun h => h23 (.inr h)
                  simp [a, b]
                simp only [hu, Option.bind_some, Bool.false_eq_true, if_false, h23]
      · have : (decide (0 ≤ lo) && decide (lo ≤ 1000)) = false := by simpa using h3
        simp [h1, h2, this]
    · have : (decide (0 ≤ sh) && decide (sh ≤ 1)) = false := by simpa using h2
      simp [h1, this]
  · have : (decide (1 ≤ en) && decide (en ≤ 5)) = false := by simpa using h1
    simp [this]
theorem p_specDec (en sh lo : Int) (S : ByteArray) : zi.f en sh lo S = some (okDec en sh lo (yo S)) := by
  unfold zi.f z9.f zf.f zh.f okDec
  have hs := size_bytes S
  simp only [p_l1In, Option.bind_some, strB, bytes_nil, p_specBegun]
  by_cases h1 : 1 ≤ en ∧ en ≤ 5
  · by_cases h2 : 0 ≤ sh ∧ sh ≤ 1
    · by_cases h3 : 0 ≤ lo ∧ lo ≤ 1000
      · rw [wrapS (n := sh + lo) (by omega) (by omega)]
        by_cases h4 : en ≠ 5 ∧ 0 < sh + lo
        · simp [h1, h2, h3, h4]
        · have e4 : (decide (en ≠ 5) && decide (0 < sh + lo)) = false := by
            rw [Bool.and_eq_false_iff, decide_eq_false_iff_not, decide_eq_false_iff_not]
            by_cases a : en = 5
            · left; simpa using a
            · right; intro b; exact h4 ⟨a, b⟩
          have e5 : (if (en != 5) = true then (some (decide (sh + lo > 0))) else (some false)) = some false := by
            by_cases a : en = 5
            · simp [a]
            · have : ¬ 0 < sh + lo := fun b => h4 ⟨a, b⟩
              simp [a]; omega
          simp only [h1, h2, h3, decide_true, Bool.and_self, Bool.not_true, Bool.false_eq_true, if_false, e5, Option.bind_some, e4, Bool.not_false, Bool.true_and]
          by_cases he : en = 1
          · by_cases hL : yo S = [] <;> simp [he, hL]
          · have he' : (en == 1) = false := by simpa using he
            simp only [he', he, Bool.false_eq_true, if_false]
            by_cases h23 : en = 2 ∨ en = 3
            · have hu : (if (en == 2) = true then (some true) else (some (en == 3))) = some true := by rcases h23 with h | h <;> simp [h]
              simp only [hu, Option.bind_some, if_true, h23]
              by_cases hL : yo S = []
              · have d0 : decide ((S.size : Int) < 2) = true := by rw [decide_eq_true_eq, hs, hL]; simp
                simp [d0, hL]
              · have hne : (yo S).length ≠ 0 := fun h => hL (List.eq_nil_of_length_eq_zero h)
                simp only [hL, if_false]
                by_cases hl1 : S.size = 1
                · have d3 : decide ((S.size : Int) < 2) = true := by rw [decide_eq_true_eq]; omega
                  have d4 : decide ((yo S).length = 1) = true := by rw [decide_eq_true_eq]; omega
                  have d2 : decide ((yo S).length ≤ 3) = true := by rw [decide_eq_true_eq]; omega
                  simp [d3, d4, d2]
                · have d3 : decide ((S.size : Int) < 2) = false := by rw [decide_eq_false_iff_not]; omega
                  have d4 : decide ((yo S).length = 1) = false := by rw [decide_eq_false_iff_not]; omega
                  simp only [d3, d4, Bool.false_eq_true, if_false, Bool.false_or]
                  by_cases hl3 : S.size ≤ 3
                  · have d1 : decide ((S.size : Int) < 4) = true := by rw [decide_eq_true_eq]; omega
                    have d2 : decide ((yo S).length ≤ 3) = true := by rw [decide_eq_true_eq]; omega
                    simp only [d1, d2, if_true, Bool.true_and]
                    rw [p_specUnit en S (by omega)]
                    simp
                  · have d1 : decide ((S.size : Int) < 4) = false := by rw [decide_eq_false_iff_not]; omega
                    have d2 : decide ((yo S).length ≤ 3) = false := by rw [decide_eq_false_iff_not]; omega
                    simp [d1, d2]
            · have hu : (if (en == 2) = true then (some true) else (some (en == 3))) = some false := by
                have a : en ≠ 2 := fun h => h23 (.inl h)
                have b : en ≠ 3 := fun h => h23 (.inr h)
                simp [a, b]
              simp only [hu, Option.bind_some, Bool.false_eq_true, if_false, h23]
              by_cases hL : yo S = [] <;> simp [hL]
      · have : (decide (0 ≤ lo) && decide (lo ≤ 1000)) = false := by simpa using h3
        simp [h1, h2, this]
    · have : (decide (0 ≤ sh) && decide (sh ≤ 1)) = false := by simpa using h2
      simp [h1, this]
  · have : (decide (1 ≤ en) && decide (en ≤ 5)) = false := by simpa using h1
    simp [this]
theorem p_areRunes (p : List Int) (n : Int) (hp : p.length ≤ big) : z08.f p n = some (decide ((p.length : Int) ≤ n) && p.all okRune) := by
  unfold z08.f z07.f z06.f
  by_cases h : (p.length : Int) ≤ n
  · rw [if_pos (by simpa using h)]
    have := scan_loop p hp (fun u => !okRune u) (fun i _ => i) (z06.l1 p) (fun k i => by rw [z06.l1]; simp only [z05.f, p_implRune, Option.bind_some]) (((p.length : Int) - 0).toNat + 2) 0 (by omega) (by omega)
    rw [show ((0 : Nat) : Int) = 0 from rfl] at this
    rw [this, List.drop_zero]
    have e : p.all okRune = !(p.any fun u => !okRune u) := List.all_eq_not_any_not
    rw [e]
    cases hf : p.findIdx? (fun u => !okRune u) with
    | none =>
      have : p.any (fun u => !okRune u) = false := by
        rw [List.findIdx?_eq_none_iff] at hf
        simpa using hf
      rw [this]; simp [h]
    | some j =>
      obtain ⟨hj, h1, h2⟩ := List.findIdx?_eq_some_iff_getElem.1 hf
      have : p.any (fun u => !okRune u) = true := List.any_eq_true.2 ⟨_, List.getElem_mem hj, h1⟩
      rw [this]
      simp [hj]
  · rw [if_neg (by simpa using h)]
    simp [h]
def okLong (u : Int) : Bool := decide (1 ≤ u) && decide (u ≤ 1000)
theorem p_longs (p : List Int) (hp : p.length ≤ big) : z0b.f p = some (!p.all okLong) := by
  unfold z0b.f z0a.f
  have e1 : ∀ u, z09.f u = some (!okLong u) := fun u => by
    unfold z09.f okLong
    simp only [p_inRange, Option.bind_some]
  have := scan_loop p hp (fun u => !okLong u) (fun i _ => i) (z0a.l1 p) (fun k i => by rw [z0a.l1]; simp only [e1, Option.bind_some]) (((p.length : Int) - 0).toNat + 2) 0 (by omega) (by omega)
  rw [show ((0 : Nat) : Int) = 0 from rfl] at this
  rw [this, List.drop_zero]
  have e : p.all okLong = !(p.any fun u => !okLong u) := List.all_eq_not_any_not
  rw [e, Bool.not_not]
  cases hf : p.findIdx? (fun u => !okLong u) with
  | none =>
    have : p.any (fun u => !okLong u) = false := by
      rw [List.findIdx?_eq_none_iff] at hf
      simpa using hf
    rw [this]; simp
  | some j =>
    obtain ⟨hj, h1, h2⟩ := List.findIdx?_eq_some_iff_getElem.1 hf
    have : p.any (fun u => !okLong u) = true := List.any_eq_true.2 ⟨_, List.getElem_mem hj, h1⟩
    rw [this]
    simp [hj]
def okBuf (m : Int) (rs ls : List Int) (g : Int) : Bool := (decide (1 ≤ m) && decide (m ≤ 60)) && decide ((rs.length : Int) ≤ m) && rs.all okRune && ((ls.length : Int) == (rs.length : Int)) && ls.all okLong && (decide (0 ≤ g) && decide (g ≤ 1000000))
theorem p_implBuf (m : Int) (rs ls : List Int) (g : Int) (hr : rs.length ≤ big) (hl : ls.length ≤ big) : z0c.f m rs ls g = some (okBuf m rs ls g) := by
  unfold z0c.f okBuf
  simp only [p_inRange, Option.bind_some, p_areRunes rs m hr, p_longs ls hl]
  generalize (decide (1 ≤ m) && decide (m ≤ 60)) = b1
  generalize decide ((rs.length : Int) ≤ m) = b2
  generalize rs.all okRune = b3
  generalize ((ls.length : Int) == (rs.length : Int)) = b4
  generalize ls.all okLong = b5
  generalize (decide (0 ≤ g) && decide (g ≤ 1000000)) = b6
  cases b1 <;> cases b2 <;> cases b3 <;> cases b4 <;> cases b5 <;> cases b6 <;> rfl
theorem p_specBuf (m : Int) (rs ls : List Int) (g : Int) (hr : rs.length ≤ big) (hl : ls.length ≤ big) : zl.f m rs ls g = some (okBuf m rs ls g) := by
  unfold zl.f okBuf
  simp only [p_l1In, Option.bind_some, p_allRunes rs hr, p_l1All ls 1 1000 hl]
  have e : (ls.all fun u => decide (1 ≤ u) && decide (u ≤ 1000)) = ls.all okLong := rfl
  rw [e]
  by_cases h1 : (rs.length : Int) ≤ m ∧ m ≤ 60
  · have h2 : rs.length ≤ 1000 := by omega
    simp only [h1, h2, decide_true, Bool.and_true]
    generalize decide (1 ≤ m) = b1
    generalize rs.all okRune = b3
    generalize ((ls.length : Int) == (rs.length : Int)) = b4
    generalize ls.all okLong = b5
    generalize (decide (0 ≤ g) && decide (g ≤ 1000000)) = b6
    cases b1 <;> cases b3 <;> cases b4 <;> cases b5 <;> cases b6 <;> rfl
  · by_cases h2 : m ≤ 60
    · have h3 : ¬ (rs.length : Int) ≤ m := fun h => h1 ⟨h, h2⟩
      simp only [h2, h3, decide_true, decide_false]
      cases decide (1 ≤ m) <;> simp
    · simp [h2]
def okSess (en sh lo : Int) (L : List Int) (m : Int) (rs ls : List Int) (g : Int) (eof : Bool) : Bool := okDec en sh lo L && okBuf m rs ls g && (!eof || decide (L = []))
theorem p_implSess (en sh lo : Int) (S : ByteArray) (m : Int) (rs ls : List Int) (g : Int) (eof : Bool) (hr : rs.length ≤ big) (hl : ls.length ≤ big) : z0d.f en sh lo S m rs ls g eof = some (okSess en sh lo (yo S) m rs ls g eof) := by
  unfold z0d.f okSess
  rw [p_implDec]
  simp only [Option.bind_some, p_implBuf m rs ls g hr hl, strB, bytes_nil]
  cases okDec en sh lo (yo S) <;> cases okBuf m rs ls g <;> cases eof <;> simp
  exact decide_eq_decide.2 Iff.rfl
theorem p_specSess (en sh lo : Int) (S : ByteArray) (m : Int) (rs ls : List Int) (g : Int) (eof : Bool) (hr : rs.length ≤ big) (hl : ls.length ≤ big) : zm.f en sh lo S m rs ls g eof = some (okSess en sh lo (yo S) m rs ls g eof) := by
  unfold zm.f okSess
  rw [p_specDec]
  simp only [Option.bind_some, p_specBuf m rs ls g hr hl, strB, bytes_nil]
  cases okDec en sh lo (yo S) <;> cases okBuf m rs ls g <;> cases eof <;> simp
  exact decide_eq_decide.2 Iff.rfl
theorem okDec_nil {en sh lo : Int} {L : List Int} (h : okDec en sh lo L = true) : okDec en sh lo [] = true := by
  unfold okDec at *
  simp only [Bool.and_eq_true] at h ⊢
  exact ⟨h.1, by simp⟩
theorem okDec_len {en sh lo : Int} {L : List Int} (h : okDec en sh lo L = true) : L.length ≤ 3 := by
  unfold okDec at h
  simp only [Bool.and_eq_true] at h
  have h := h.2
  by_cases hL : L = []
  · simp [hL]
  · rw [if_neg hL] at h
    by_cases h1 : en = 1
    · rw [if_pos h1] at h
      match L, h with
      | [_], _ => simp
      | [_, _], _ => simp
      | [_, _, _], _ => simp
      | _ :: _ :: _ :: _ :: _, h => simp [begB] at h
    · rw [if_neg h1] at h
      by_cases h2 : en = 2 ∨ en = 3
      · rw [if_pos h2] at h
        simp only [Bool.and_eq_true, decide_eq_true_eq] at h
        exact h.1
      · rw [if_neg h2] at h
        cases h
theorem p_units (en : Int) : z00.f en = some (decide (en = 2 ∨ en = 3)) ∧ zf.f en = some (decide (en = 2 ∨ en = 3)) := by
  unfold z00.f zf.f
  by_cases h : en = 2 <;> by_cases h' : en = 3 <;> simp [h, h']
theorem p_flushL (en long : Int) (hlo : long = if en = 2 ∨ en = 3 then 2 else 1) : ∀ (k : Nat) (S : ByteArray) (rs ls : List Int), S.size < k → rs.length + S.size ≤ 100000 → rs.length = ls.length → rs.all okRune = true → ls.all okLong = true →
    ∃ rs' ls' : List Int, z0h.l1 long k rs ls S = some (rs', ls', (⟨#[]⟩ : ByteArray)) ∧ zn.l1 en k rs ls S = some (rs', ls') ∧ rs'.length ≤ rs.length + S.size ∧ rs'.length = ls'.length ∧ rs'.all okRune = true ∧ ls'.all okLong = true := by
  intro k
  induction k with
  | zero => intro S _ _ h; omega
  | succ k ih =>
    intro S rs ls hk hb hl hr hlg
    have hs := size_bytes S
    rw [z0h.l1, zn.l1]
    rw [strB, bytes_nil]
    by_cases hL : yo S = []
    · have e : S = (⟨#[]⟩ : ByteArray) := bytesB_inj (hL.trans bytes_nil.symm)
      simp only [hL, decide_true, Bool.not_true, Bool.false_eq_true, if_false]
      exact ⟨rs, ls, by rw [← e], rfl, by omega, hl, hr, hlg⟩
    · have hne : (yo S).length ≠ 0 := fun h => hL (List.eq_nil_of_length_eq_zero h)
      simp only [hL, decide_false, Bool.not_false, if_true]
      obtain ⟨n, hn, hn1, hn2⟩ : ∃ n : Nat, min long (S.size : Int) = n ∧ 1 ≤ n ∧ n ≤ S.size ∧ n ≤ 2 := ⟨(min long (S.size : Int)).toNat, by rw [hlo]; split <;> omega, by rw [hlo]; split <;> omega, by rw [hlo]; split <;> omega⟩
      have hsp : ((((zf.f en).bind fun u196 => if u196 = true then (some (decide ((S.size : Int) > 1))) else (some false)).bind fun (o : Bool) => match o with | x195 => (if x195 = true then (some (2 : Int)) else (some 1)))) = some (n : Int) := by
        rw [(p_units en).2]
        simp only [Option.bind_some]
        by_cases h23 : en = 2 ∨ en = 3
        · rw [if_pos h23] at hlo
          simp only [h23, decide_true, if_true, Option.bind_some]
          by_cases h1 : (S.size : Int) > 1
          · simp only [h1, decide_true, if_true]; congr 1; omega
          · simp only [h1, decide_false, Bool.false_eq_true, if_false]; congr 1; omega
        · rw [if_neg h23] at hlo
          simp only [h23, decide_false, Bool.false_eq_true, if_false, Option.bind_some]
          congr 1; omega
      rw [hsp, hn]
      simp only [Option.bind_some]
      have a1 : app? 17592186044416 rs [65533] = some (rs ++ [65533]) := app?_at (by simp; omega)
      have a2 : app? 17592186044416 ls [(n : Int)] = some (ls ++ [(n : Int)]) := app?_at (by simp; omega)
      obtain ⟨T, t1, t2⟩ := cutS_at S (a := n) (b := S.size) hn2.1 (Nat.le_refl _)
      rw [a1, a2, t1]
      simp only [Option.bind_some]
      have hT : T.size = S.size - n := by
        rw [size_bytes T, t2, List.length_drop, List.length_take]
        omega
      obtain ⟨rs', ls', i1, i2, i3, i4, i5, i6⟩ := ih T (rs ++ [65533]) (ls ++ [(n : Int)]) (by omega) (by simp; omega) (by simp; omega) (by rw [List.all_append, hr]; decide) (by
        rw [List.all_append, hlg]
        simp [okLong]
        omega)
      exact ⟨rs', ls', i1, i2, by simp at i3; omega, i4, i5, i6⟩
theorem p_own (x : List Int) (hx : x.length ≤ big) : zo.f x = some x := by
  unfold zo.f
  unfold big at hx
  rw [app?_at (by simpa using hx)]
  rfl
theorem p_clone (x : List Int) (hx : x.length ≤ big) : z0e.f x = some x := by
  unfold z0e.f
  unfold big at hx
  rw [app?_at (by simpa using hx)]
  rfl
theorem cut0 {x : List Int} {n : Nat} (h : n ≤ x.length) : cut? x 0 (n : Int) = some (x.take n) := by
  have := cut?_at (xs := x) (a := 0) (b := n) (by omega) h
  rw [show ((0 : Nat) : Int) = 0 from rfl] at this
  simpa using this
theorem cutE {x : List Int} {n : Nat} (h : n ≤ x.length) : cut? x (n : Int) (x.length : Int) = some (x.drop n) := by
  have := cut?_at (xs := x) (a := n) (b := x.length) h (by omega)
  simpa using this
theorem p_grow (n : Nat) (hn : n ≤ big) : z0i.f (n : Int) = some [] := by
  unfold z0i.f
  unfold big at hn
  have e0 : IntKind.i64.wrap (0 - 0) = 0 := by decide
  have e1 : IntKind.i64.wrap ((n : Int) - 0) = n := by rw [Int.sub_zero]; exact wrapS (by omega) (by omega)
  rw [if_neg (by simp), e0, e1]
  by_cases h : 0 < n
  · rw [if_pos (by simpa using h), mk?_at (by omega)]
    have c1 : cut? ([] : List Int) 0 0 = some [] := cut0 (x := []) (n := 0) (by simp)
    have c2 : cut? (List.replicate n (0 : Int)) 0 0 = some [] := by simpa using cut0 (x := List.replicate n (0 : Int)) (n := 0) (by simp)
    rw [c1]
    simp only [Option.bind_some]
    rw [c2]
    rfl
  · rw [if_neg (by simpa using h)]
    rfl
theorem p_concat (a b : List Int) (h : a.length + b.length ≤ big) : z0j.f [a, b] = some (a ++ b) := by
  have hh : a.length + b.length ≤ big := h
  unfold big at h
  have l1 : z0j.l1 [a, b] 4 0 0 = some (((a.length + b.length : Nat)) : Int) := by
    rw [z0j.l1]
    have w1 : IntKind.i64.wrap (0 + (a.length : Int)) = a.length := by rw [Int.zero_add]; exact wrapS (by omega) (by omega)
    have w2 : IntKind.i64.wrap ((a.length : Int) + (b.length : Int)) = ((a.length + b.length : Nat) : Int) := by rw [wrapS (by omega) (by omega)]; omega
    have i1 : IntKind.i64.wrap (0 + 1) = 1 := by decide
    have i2 : IntKind.i64.wrap (1 + 1) = 2 := by decide
    have r0 : rd? [a, b] 0 = some a := rd?_at (xs := [a, b]) (i := 0) (by simp)
    have r1 : rd? [a, b] 1 = some b := rd?_at (xs := [a, b]) (i := 1) (by simp)
    rw [if_pos (by simp), r0]
    simp only [Option.bind_some]
    rw [w1, if_neg (by simp), i1, z0j.l1, if_pos (by simp), r1]
    simp only [Option.bind_some]
    rw [w2, if_neg (by simp; omega), i2, z0j.l1, if_neg (by simp)]
  have l2 : z0j.l2 [a, b] 4 [] 0 = some (a ++ b) := by
    have i1 : IntKind.i64.wrap (0 + 1) = 1 := by decide
    have i2 : IntKind.i64.wrap (1 + 1) = 2 := by decide
    have r0 : rd? [a, b] 0 = some a := rd?_at (xs := [a, b]) (i := 0) (by simp)
    have r1 : rd? [a, b] 1 = some b := rd?_at (xs := [a, b]) (i := 1) (by simp)
    rw [z0j.l2, if_pos (by simp), r0]
    simp only [Option.bind_some]
    rw [app?_at (by simp; omega)]
    simp only [Option.bind_some, List.nil_append]
    rw [i1, z0j.l2, if_pos (by simp), r1]
    simp only [Option.bind_some]
    rw [app?_at (by omega)]
    simp only [Option.bind_some]
    rw [i2, z0j.l2, if_neg (by simp)]
  unfold z0j.f
  show (z0j.l1 [a, b] 4 0 0).bind _ = _
  rw [l1]
  simp only [Option.bind_some]
  rw [p_grow _ hh]
  simp only [Option.bind_some]
  show (z0j.l2 [a, b] 4 [] 0).bind _ = _
  rw [l2]
  rfl
def addAll (s : Int) (xs : List Int) : Int := xs.foldl (fun s u => IntKind.i64.wrap (s + u)) s
theorem p_bytes (x : List Int) (hx : x.length ≤ big) (g : Int) : z0k.l1 x (((x.length : Int) - 0).toNat + 2) g 0 = some (addAll g x) := by
  have := run_loop x hx (fun s u K => K (IntKind.i64.wrap (s + u))) (fun s => some s) (z0k.l1 x) (fun _ _ _ => rfl) (((x.length : Int) - 0).toNat + 2) 0 g (by omega) (by omega)
  rw [show ((0 : Nat) : Int) = 0 from rfl] at this
  rw [this, List.drop_zero, runS_fold (fun s u => IntKind.i64.wrap (s + u))]
  rfl
theorem p_dropSum (x : List Int) (hx : x.length ≤ big) (g : Int) : zq.l1 x (((x.length : Int) - 0).toNat + 2) 0 g = some (addAll g x) := by
  have := run_loop x hx (fun s u K => K (IntKind.i64.wrap (s + u))) (fun s => some s) (fun k s i => zq.l1 x k i s) (fun _ _ _ => rfl) (((x.length : Int) - 0).toNat + 2) 0 g (by omega) (by omega)
  rw [show ((0 : Nat) : Int) = 0 from rfl] at this
  rw [this, List.drop_zero, runS_fold (fun s u => IntKind.i64.wrap (s + u))]
  rfl
theorem p_drop (m : Int) (rs ls : List Int) (g : Int) (n : Nat) (hn : n ≤ rs.length) (hl : n ≤ ls.length) (h1 : rs.length ≤ big) (h2 : ls.length ≤ big) : zq.f m rs ls g n = some (m, rs.drop n, ls.drop n, addAll g (ls.take n), rs.take n) := by
  unfold zq.f
  rw [cut0 hn, cut0 hl, cutE hn, cutE hl]
  simp only [Option.bind_some]
  rw [p_own _ (by simp; omega), p_own _ (by simp; omega), p_own _ (by simp; omega)]
  simp only [Option.bind_some]
  rw [p_dropSum _ (by simp; omega)]
  rfl
theorem p_most (a b : Int) : zp.f a b = some (max a b) := by
  unfold zp.f
  by_cases h : a > b
  · rw [if_pos (by simpa using h), Int.max_eq_left (by omega)]
  · rw [if_neg (by simpa using h), Int.max_eq_right (by omega)]
def over (m : Int) (xs : List Int) : Nat := (max 0 ((xs.length : Int) - m)).toNat
def putOk (m : Int) (rs ls : List Int) (g : Int) (p q : List Int) : Bool := okBuf m rs ls g && decide (p.length = q.length) && decide (p.length ≤ 1000) && q.all okLong && p.all okRune && okBuf m ((rs ++ p).drop (over m (rs ++ p))) ((ls ++ q).drop (over m (rs ++ p))) (addAll g ((ls ++ q).take (over m (rs ++ p))))
def putR (m : Int) (rs ls : List Int) (g : Int) (p q : List Int) : Int × List Int × List Int × Int × List Int × Bool := if putOk m rs ls g p q then (m, (rs ++ p).drop (over m (rs ++ p)), (ls ++ q).drop (over m (rs ++ p)), addAll g ((ls ++ q).take (over m (rs ++ p))), (rs ++ p).take (over m (rs ++ p)), true) else (0, [], [], 0, [], false)
/-- Plain sums. -/
def lsum : List Int → Int
  | [] => 0
  | x :: xs => x + lsum xs
theorem lsum_app : ∀ a b, lsum (a ++ b) = lsum a + lsum b
  | [], b => by simp [lsum]
  | x :: a, b => by simp only [List.cons_append, lsum, lsum_app a b]; omega
theorem lsum_bd : ∀ a : List Int, a.all okLong = true → (a.length : Int) ≤ lsum a ∧ lsum a ≤ 1000 * a.length
  | [], _ => by simp [lsum]
  | x :: a, h => by
    rw [List.all_cons, Bool.and_eq_true] at h
    have ih := lsum_bd a h.2
    have hx := h.1
    simp only [okLong, Bool.and_eq_true, decide_eq_true_eq] at hx
    simp only [lsum, List.length_cons]
    omega
theorem addAll_sum : ∀ (a : List Int) (g : Int), a.all okLong = true → 0 ≤ g → g + 1000 * a.length ≤ 1000000000 → addAll g a = g + lsum a
  | [], g, _, _, _ => by simp [addAll, lsum]
  | x :: a, g, h, h0, h1 => by
    rw [List.all_cons, Bool.and_eq_true] at h
    have hx := h.1
    simp only [okLong, Bool.and_eq_true, decide_eq_true_eq] at hx
    simp only [List.length_cons] at h1
    show addAll (IntKind.i64.wrap (g + x)) a = _
    rw [wrapS (by omega) (by omega), addAll_sum a (g + x) h.2 (by omega) (by omega)]
    simp only [lsum]
    omega
theorem addAll_app (g : Int) (a b : List Int) : addAll g (a ++ b) = addAll (addAll g a) b := by simp [addAll]
theorem all_take {t : Int → Bool} {a : List Int} (h : a.all t = true) (n : Nat) : (a.take n).all t = true := by
  rw [List.all_eq_true] at h ⊢
  exact fun x hx => h x (List.mem_of_mem_take hx)
theorem all_drop {t : Int → Bool} {a : List Int} (h : a.all t = true) (n : Nat) : (a.drop n).all t = true := by
  rw [List.all_eq_true] at h ⊢
  exact fun x hx => h x (List.mem_of_mem_drop hx)
theorem over_eq (m : Int) (xs : List Int) (h : 0 ≤ m) : over m xs = xs.length - m.toNat := by unfold over; omega
/-- What comes in two pieces. -/
theorem put_split {m : Int} {rs ls : List Int} {g : Int} {p q : List Int} (h : putOk m rs ls g p q = true) (k : Nat) (hk : k ≤ p.length) :
    putOk m rs ls g (p.take k) (q.take k) = true ∧
    ∀ rs' ls' g' t, putR m rs ls g (p.take k) (q.take k) = (m, rs', ls', g', t, true) → putOk m rs' ls' g' (p.drop k) (q.drop k) = true ∧ putR m rs' ls' g' (p.drop k) (q.drop k) = (m, (putR m rs ls g p q).2.1, (putR m rs ls g p q).2.2.1, (putR m rs ls g p q).2.2.2.1, (putR m rs' ls' g' (p.drop k) (q.drop k)).2.2.2.2.1, true) ∧ t ++ (putR m rs' ls' g' (p.drop k) (q.drop k)).2.2.2.2.1 = (putR m rs ls g p q).2.2.2.2.1 := by
  have hall := h
  unfold putOk at h
  simp only [Bool.and_eq_true, decide_eq_true_eq] at h
  obtain ⟨⟨⟨⟨⟨h1, h2⟩, h3⟩, h4⟩, h5⟩, h6⟩ := h
  have hb := h1
  have hb6 := h6
  simp only [okBuf, Bool.and_eq_true, decide_eq_true_eq, beq_iff_eq] at h1 h6
  obtain ⟨⟨⟨⟨⟨a1, a2⟩, a3⟩, a4⟩, a5⟩, a6⟩ := h1
  obtain ⟨⟨⟨⟨⟨c1, c2⟩, c3⟩, c4⟩, c5⟩, c6⟩ := h6
  obtain ⟨M, rfl⟩ := Int.eq_ofNat_of_zero_le (show 0 ≤ m by omega)
  have hls : ls.length = rs.length := by omega
  have e0 : over (M : Int) (rs ++ p) = rs.length + p.length - M := by rw [over_eq _ _ (by omega)]; simp
  have e1 : over (M : Int) (rs ++ p.take k) = rs.length + k - M := by rw [over_eq _ _ (by omega)]; simp; omega
  have hsplit1 : rs ++ p = rs ++ p.take k ++ p.drop k := by rw [List.append_assoc, List.take_append_drop]
  have hsplit2 : ls ++ q = ls ++ q.take k ++ q.drop k := by rw [List.append_assoc, List.take_append_drop]
  have hq4 : (ls ++ q).all okLong = true := by rw [List.all_append, a5, h4]; rfl
  have hq5 : (rs ++ p).all okRune = true := by rw [List.all_append, a3, h5]; rfl
  have hlt1 : (rs ++ p.take k).length = rs.length + k := by simp; omega
  have hlt2 : (ls ++ q.take k).length = rs.length + k := by simp; omega
  have t1 : (ls ++ q.take k).take (rs.length + k - M) = (ls ++ q).take (rs.length + k - M) := by rw [hsplit2, List.take_append_of_le_length (l₁ := ls ++ q.take k) (by omega)]
  have s1 : (ls ++ q).take (rs.length + p.length - M) = (ls ++ q).take (rs.length + k - M) ++ ((ls ++ q).drop (rs.length + k - M)).take ((rs.length + p.length - M) - (rs.length + k - M)) := by
    have : rs.length + p.length - M = (rs.length + k - M) + ((rs.length + p.length - M) - (rs.length + k - M)) := by omega
    rw [this, List.take_add]
    congr 2
    omega
  have g1 := addAll_sum ((ls ++ q).take (rs.length + k - M)) g (all_take hq4 _) (by omega) (by simp; omega)
  have g2 := addAll_sum ((ls ++ q).take (rs.length + p.length - M)) g (all_take hq4 _) (by omega) (by simp; omega)
  have g3 := (lsum_bd ((ls ++ q).take (rs.length + k - M)) (all_take hq4 _)).1
  have g4 := (lsum_bd (((ls ++ q).drop (rs.length + k - M)).take ((rs.length + p.length - M) - (rs.length + k - M))) (all_take (all_drop hq4 _) _)).1
  have g5 : lsum ((ls ++ q).take (rs.length + p.length - M)) = lsum ((ls ++ q).take (rs.length + k - M)) + lsum (((ls ++ q).drop (rs.length + k - M)).take ((rs.length + p.length - M) - (rs.length + k - M))) := by rw [← lsum_app, ← s1]
  rw [e0] at c6
  have hq1 : (q.take k).all okLong = true := all_take h4 _
  have hp1 : (p.take k).all okRune = true := all_take h5 _
  have dl1 : ((rs ++ p.take k).drop (rs.length + k - M)).length = rs.length + k - (rs.length + k - M) := by rw [List.length_drop, hlt1]
  have dl2 : ((ls ++ q.take k).drop (rs.length + k - M)).length = rs.length + k - (rs.length + k - M) := by rw [List.length_drop, hlt2]
  have ok1 : putOk (M : Int) rs ls g (p.take k) (q.take k) = true := by
    unfold putOk
    rw [e1, t1, hb, hq1, hp1]
    simp only [Bool.true_and, Bool.and_true, Bool.and_eq_true, decide_eq_true_eq]
    refine ⟨⟨by simp; omega, by simp; omega⟩, ?_⟩
    simp only [okBuf, Bool.and_eq_true, decide_eq_true_eq, beq_iff_eq]
    refine ⟨⟨⟨⟨⟨a1, by rw [dl1]; omega⟩, ?_⟩, by rw [dl1, dl2]⟩, ?_⟩, ?_⟩
    · refine all_drop ?_ _
      rw [List.all_append, a3, hp1]; rfl
    · refine all_drop ?_ _
      rw [List.all_append, a5, hq1]; rfl
    · rw [g1]; omega
  refine ⟨ok1, ?_⟩
  intro rs' ls' g' t hR
  unfold putR at hR
  rw [if_pos ok1, e1, t1] at hR
  simp only [Prod.mk.injEq, true_and, and_true] at hR
  obtain ⟨rfl, rfl, rfl, rfl⟩ := hR
  have m1 : (rs ++ p.take k).drop (rs.length + k - M) ++ p.drop k = (rs ++ p).drop (rs.length + k - M) := by rw [hsplit1, List.drop_append_of_le_length (l₁ := rs ++ p.take k) (by omega)]
  have m2 : (ls ++ q.take k).drop (rs.length + k - M) ++ q.drop k = (ls ++ q).drop (rs.length + k - M) := by rw [hsplit2, List.drop_append_of_le_length (l₁ := ls ++ q.take k) (by omega)]
  have e2 : over (M : Int) ((rs ++ p).drop (rs.length + k - M)) = rs.length + p.length - (rs.length + k - M) - M := by rw [over_eq _ _ (by omega)]; simp
  have e3 : (rs.length + k - M) + (rs.length + p.length - (rs.length + k - M) - M) = rs.length + p.length - M := by omega
  have hgs : addAll (addAll g ((ls ++ q).take (rs.length + k - M))) (((ls ++ q).drop (rs.length + k - M)).take (rs.length + p.length - (rs.length + k - M) - M)) = addAll g ((ls ++ q).take (rs.length + p.length - M)) := by
    rw [← addAll_app, s1]
    congr 3
    omega
  have ok2 : putOk (M : Int) ((rs ++ p.take k).drop (rs.length + k - M)) ((ls ++ q.take k).drop (rs.length + k - M)) (addAll g ((ls ++ q).take (rs.length + k - M))) (p.drop k) (q.drop k) = true := by
    have hb1 := ok1
    unfold putOk at hb1
    rw [e1, t1] at hb1
    simp only [Bool.and_eq_true] at hb1
    unfold putOk
    rw [m1, m2, e2, hb1.2, all_drop h4, all_drop h5, hgs, List.drop_drop, List.drop_drop, e3]
    rw [e0] at hb6
    rw [hb6]
    simp only [Bool.true_and, Bool.and_true, Bool.and_eq_true, decide_eq_true_eq]
    exact ⟨by simp; omega, by simp; omega⟩
  refine ⟨ok2, ?_, ?_⟩
  · unfold putR
    rw [if_pos ok2, if_pos hall, m1, m2, e2, e0, hgs, List.drop_drop, List.drop_drop, e3]
  · unfold putR
    rw [if_pos ok2, if_pos hall, m1, e2, e0]
    show _ ++ _ = _
    rw [hsplit1, ← List.take_append_of_le_length (l₁ := rs ++ p.take k) (l₂ := p.drop k) (by omega)]
    rw [← List.take_add, e3]
theorem p_takeS (a b c : Int) (d : ByteArray) (e : Bool) (m : Int) (rs ls : List Int) (g : Int) (n : Nat) (hn : n ≤ rs.length) (hl : n ≤ ls.length) (h1 : rs.length ≤ big) (h2 : ls.length ≤ big) : z0l.f a b c d m rs ls g e n = some (rs.take n, rs.drop n, ls.drop n, addAll g (ls.take n)) := by
  unfold z0l.f z0k.f
  rw [cut0 hn, cut0 hl, cutE hn, cutE hl]
  simp only [Option.bind_some]
  rw [p_clone _ (by simp; omega), p_bytes _ (by simp; omega), p_clone _ (by simp; omega), p_clone _ (by simp; omega)]
  rfl
theorem p_putS (a b c : Int) (d : ByteArray) (e : Bool) (m : Int) (rs ls : List Int) (g : Int) (p q : List Int) (h0 : 0 ≤ m) (hm : m ≤ 1000) (h1 : rs.length + p.length ≤ big) (h2 : rs.length = ls.length) (h3 : p.length = q.length) :
    z0m.f a b c d m rs ls g e p q = some ((rs ++ p).take (over m (rs ++ p)), okBuf m ((rs ++ p).drop (over m (rs ++ p))) ((ls ++ q).drop (over m (rs ++ p))) (addAll g ((ls ++ q).take (over m (rs ++ p)))), (rs ++ p).drop (over m (rs ++ p)), (ls ++ q).drop (over m (rs ++ p)), addAll g ((ls ++ q).take (over m (rs ++ p)))) := by
  have hw : IntKind.i64.wrap (((rs ++ p).length : Int) - m) = ((rs ++ p).length : Int) - m := by
    unfold big at h1
    exact wrapS (by simp; omega) (by simp; omega)
  have hk : max 0 (((rs ++ p).length : Int) - m) = ((over m (rs ++ p) : Nat) : Int) := by unfold over; omega
  have hk1 : over m (rs ++ p) ≤ (rs ++ p).length := by unfold over; omega
  have hk2 : over m (rs ++ p) ≤ (ls ++ q).length := by rw [List.length_append, ← h2, ← h3, ← List.length_append]; exact hk1
  have b1 : (rs ++ p).length ≤ big := by simpa using h1
  have b2 : (ls ++ q).length ≤ big := by simp; omega
  unfold z0m.f
  rw [p_concat rs p h1, p_concat ls q (by omega)]
  simp only [Option.bind_some]
  rw [hw, hk, p_takeS _ _ _ _ _ m _ _ g _ hk1 hk2 b1 b2]
  simp only [Option.bind_some]
  rw [p_implBuf _ _ _ _ (by rw [List.length_drop]; omega) (by rw [List.length_drop]; omega)]
  rfl
theorem p_l10PutS (m : Int) (rs ls : List Int) (g : Int) (p q : List Int) (h0 : 0 ≤ m) (hm : m ≤ 1000) (h1 : rs.length + p.length ≤ big) (h2 : rs.length = ls.length) (h3 : p.length = q.length) :
    zr.f m rs ls g p q = some (m, (rs ++ p).drop (over m (rs ++ p)), (ls ++ q).drop (over m (rs ++ p)), addAll g ((ls ++ q).take (over m (rs ++ p))), (rs ++ p).take (over m (rs ++ p))) := by
  have hw : IntKind.i64.wrap (((rs ++ p).length : Int) - m) = ((rs ++ p).length : Int) - m := by
    unfold big at h1
    exact wrapS (by simp; omega) (by simp; omega)
  have hk : max 0 (((rs ++ p).length : Int) - m) = ((over m (rs ++ p) : Nat) : Int) := by unfold over; omega
  have hk1 : over m (rs ++ p) ≤ (rs ++ p).length := by unfold over; omega
  have hk2 : over m (rs ++ p) ≤ (ls ++ q).length := by rw [List.length_append, ← h2, ← h3, ← List.length_append]; exact hk1
  have b1 : (rs ++ p).length ≤ big := by simpa using h1
  have b2 : (ls ++ q).length ≤ big := by simp; omega
  unfold zr.f
  rw [p_own rs (by omega), p_own ls (by omega)]
  have a1 : app? 17592186044416 rs p = some (rs ++ p) := app?_at (by unfold big at h1; omega)
  have a2 : app? 17592186044416 ls q = some (ls ++ q) := app?_at (by unfold big at h1; omega)
  simp only [Option.bind_some, a1, a2, p_most]
  rw [hw, hk, p_drop m _ _ g _ hk1 hk2 b1 b2]
  rfl
theorem p_PutBufS (m : Int) (rs ls : List Int) (g : Int) (p q : List Int) (hr : rs.length ≤ big) (hl : ls.length ≤ big) (hp : p.length ≤ big) (hq : q.length ≤ big) : zt.f m rs ls g p q = some (putR m rs ls g p q) := by
  unfold zt.f putR putOk
  have e : (q.all fun u => decide (1 ≤ u) && decide (u ≤ 1000)) = q.all okLong := rfl
  simp only [p_specBuf m rs ls g hr hl, Option.bind_some, p_allRunes p hp, p_l1All q 1 1000 hq, e]
  cases hs : okBuf m rs ls g with
  | false => rfl
  | true =>
    simp only [Bool.not_true, Bool.false_eq_true, if_false, Bool.true_and]
    by_cases h1 : p.length = q.length
    · have n3 : ((q.length : Int) != (p.length : Int)) = false := by simp [h1]
      have d1 : decide (p.length = q.length) = true := by simpa using h1
      by_cases h2 : p.length ≤ 1000
      · have d3 : decide (p.length ≤ 1000) = true := by simpa using h2
        cases h3 : q.all okLong with
        | false =>
          simp only [n3, Bool.false_eq_true, if_false, Bool.not_false, Option.bind_some, if_true, Bool.and_false, Bool.false_and]
          split <;> rfl
        | true =>
          simp only [n3, Bool.false_eq_true, if_false, Bool.not_true, Option.bind_some, if_true]
          simp only [okBuf, Bool.and_eq_true, decide_eq_true_eq, beq_iff_eq] at hs
          have hrs : rs.length ≤ 60 := by omega
          have g2 := p_l10PutS m rs ls g p q (by omega) (by omega) (by unfold big; omega) (by omega) h1
          rw [d3, d1, Bool.and_true, Bool.true_and]
          have L1 : ((rs ++ p).drop (over m (rs ++ p))).length ≤ 2000 := by simp; omega
          have L2 : ((ls ++ q).drop (over m (rs ++ p))).length ≤ 2000 := by simp; omega
          cases h4 : p.all okRune with
          | false => rfl
          | true =>
            simp only [Bool.not_true, Bool.false_eq_true, if_false, Option.bind_some]
            rw [g2]
            simp only [Option.bind_some]
            rw [p_specBuf _ _ _ _ (by unfold big; omega) (by unfold big; omega)]
            simp only [Option.bind_some]
            cases okBuf m ((rs ++ p).drop (over m (rs ++ p))) ((ls ++ q).drop (over m (rs ++ p))) (addAll g ((ls ++ q).take (over m (rs ++ p)))) <;> first | rfl | trivial
      · have d3 : decide (p.length ≤ 1000) = false := by simpa using h2
        simp [d3]
    · have n3 : ((q.length : Int) != (p.length : Int)) = true := by simp; omega
      have d1 : decide (p.length = q.length) = false := by simpa using h1
      rw [n3, d1]
      split <;> rfl
theorem p_eqIntS (p q : List Int) (hp : p.length ≤ big) : z0q.f p q = some (decide (p = q)) :=
  eq_all p q hp (z0q.l1 p q) _ (by omega) fun _ _ _ => rfl
theorem p_toIntS_l (p : List Int) (hp : p.length ≤ big) : ∀ (k i : Nat) (x : List Int), i ≤ p.length → p.length - i < k → x.length = p.length → x.take i = p.take i → z5.l1 p k x i = some p := by
  intro k
  induction k with
  | zero => intro i x _ h; omega
  | succ k ih =>
    intro i x hi hk hl ht
    rw [z5.l1]
    by_cases h : i < p.length
    · rw [if_pos (by simpa using h), rd?_at h]
      simp only [Option.bind_some]
      rw [rd?_at (by omega : i < x.length)]
      simp only [Option.bind_some]
      rw [st?_at p[i] (by omega : i < x.length)]
      simp only [Option.bind_some]
      rw [wrapN i (by unfold big at hp; omega)]
      refine ih (i + 1) _ h (by omega) (by simpa using hl) ?_
      rw [List.take_add_one, List.take_add_one, List.take_set_of_le (Nat.le_refl i), ht]
      simp [h, hl]
    · rw [if_neg (by simpa using h)]
      obtain rfl : i = p.length := by omega
      rw [List.take_length, ← hl, List.take_length] at ht
      rw [ht]
theorem p_toIntS (p : List Int) (hp : p.length ≤ big) : z5.f p = some p := by
  unfold z5.f
  rw [mk?_at (by unfold big at hp; omega)]
  simp only [Option.bind_some]
  have := p_toIntS_l p hp (((p.length : Int) - 0).toNat + 2) 0 (List.replicate p.length 0) (by omega) (by omega) (by simp) (by simp)
  rw [show ((0 : Nat) : Int) = 0 from rfl] at this
  rw [this]
  rfl
theorem p_szIntS (p : List Int) (n : Int) (h0 : 0 ≤ n) (h1 : n ≤ 1048576) (hp : p.length ≤ maxN) : z1.f p n = some (if (p.length : Int) ≤ n then n - p.length else -1) := by
  unfold z1.f
  unfold maxN at hp
  rw [wrapS (by omega) (by omega)]
  by_cases h : (p.length : Int) ≤ n
  · rw [if_neg (by simp; omega), if_pos h]
  · rw [if_pos (by simp; omega), if_neg h]
def marks (k : Int) (n : Nat) : List Int := (List.range n).map fun i : Nat => k + i
theorem marks_len (k : Int) (n : Nat) : (marks k n).length = n := by simp [marks]
theorem marks_get (k : Int) (n i : Nat) (h : i < n) : (marks k n)[i]? = some (k + i) := by simp [marks, h]
theorem p_markIntS_l (p : List Int) (k0 : Int) (h0 : 0 ≤ k0) (h1 : k0 ≤ 1000000000000) (hp : p.length ≤ big) : ∀ (k i : Nat) (x : List Int), i ≤ p.length → p.length - i < k → x.length = p.length → x.take i = (marks k0 p.length).take i → z0t.l1 p k x (k0 + i) i = some (k0 + p.length, marks k0 p.length) := by
  intro k
  induction k with
  | zero => intro i x _ h; omega
  | succ k ih =>
    intro i x hi hk hl ht
    rw [z0t.l1]
    by_cases h : i < p.length
    · rw [if_pos (by simpa using h), rd?_at (by omega : i < x.length)]
      simp only [Option.bind_some]
      rw [st?_at _ (by omega : i < x.length)]
      simp only [Option.bind_some]
      unfold big at hp
      rw [wrapN i (by omega), wrapS (by omega) (by omega), show k0 + (i : Int) + 1 = k0 + ((i + 1 : Nat) : Int) by omega]
      refine ih (i + 1) _ h (by omega) (by simpa using hl) ?_
      rw [List.take_add_one, List.take_add_one, List.take_set_of_le (Nat.le_refl i), ht, marks_get _ _ _ h]
      simp [h, hl]
    · rw [if_neg (by simpa using h)]
      obtain rfl : i = p.length := by omega
      rw [List.take_of_length_le (l := x) (by omega), List.take_of_length_le (l := marks k0 p.length) (by rw [marks_len]; omega)] at ht
      rw [ht]
theorem p_markIntS (p : List Int) (k0 : Int) (h0 : 0 ≤ k0) (h1 : k0 ≤ 1000000000000) (hp : p.length ≤ big) : z0t.f p k0 = some (k0 + p.length, marks k0 p.length) := by
  unfold z0t.f
  have := p_markIntS_l p k0 h0 h1 hp (((p.length : Int) - 0).toNat + 2) 0 p (by omega) (by omega) rfl (by simp)
  rw [show ((0 : Nat) : Int) = 0 from rfl, Int.add_zero] at this
  rw [this]
  rfl
theorem sz_IntS (p : List Int) (hp : okL okZ p) (n : Int) (h0 : 0 ≤ n) (h1 : n ≤ 1048576) : ∃ r, z1.f p n = some r ∧ (r < 0 ∨ 0 ≤ r ∧ r + wL wZ p ≤ n) := by
  rw [p_szIntS p n h0 h1 hp.1, wL_int]
  by_cases h : (p.length : Int) ≤ n
  · rw [if_pos h]; exact ⟨_, rfl, .inr ⟨by omega, by omega⟩⟩
  · rw [if_neg h]; exact ⟨_, rfl, .inl (by decide)⟩
theorem to_IntS (p : List Int) (hp : wL wZ p ≤ 1000000000) : z5.f p = some p := p_toIntS p (wL_big wZ_pos hp)
theorem eq_IntS (p q : List Int) (hp : wL wZ p ≤ 1000000000) : z0q.f p q = some (decide (p = q)) := p_eqIntS p q (wL_big wZ_pos hp)
theorem mk0_IntS (p : List Int) (c : Int) (h0 : 0 ≤ c) (h1 : c + 8 * wL wZ p ≤ 1000000000000) (h2 : wL wZ p ≤ 1000000000) : ∃ (c' : Int) (m : List Int), z0t.f p c = some (c', m) ∧ c ≤ c' ∧ c' ≤ c + 8 * wL wZ p := by
  have hl := wL_int p
  have hb := wL_big wZ_pos h2
  exact ⟨_, _, p_markIntS p c h0 (by omega) hb, by omega, by omega⟩
def w_Buf (u : (Int) × (List (Int)) × (List (Int)) × (Int)) : Int := (wL wZ) u.2.1 + (wL wZ) u.2.2.1
def okw_Buf (u : (Int) × (List (Int)) × (List (Int)) × (Int)) : Prop := (okL okZ) u.2.1 ∧ (okL okZ) u.2.2.1
theorem w_Buf_pos (u : (Int) × (List (Int)) × (List (Int)) × (Int)) : 0 ≤ w_Buf u := by
  unfold w_Buf
  have := (wL_pos wZ_pos) u.2.1
  have := (wL_pos wZ_pos) u.2.2.1
  omega
theorem sz_Buf (u : (Int) × (List (Int)) × (List (Int)) × (Int)) (hu : okw_Buf u) (n : Int) (h0 : 0 ≤ n) (h1 : n ≤ 1048576) : ∃ r, z2.f u.1 u.2.1 u.2.2.1 u.2.2.2 n = some r ∧ (r < 0 ∨ 0 ≤ r ∧ r + w_Buf u ≤ n) := by
  have p0 := (wL_pos wZ_pos) u.2.1
  have p1 := (wL_pos wZ_pos) u.2.2.1
  unfold z2.f w_Buf
  obtain ⟨r0, e0, g0⟩ := sz_IntS u.2.1 hu.1 n (by omega) (by omega)
  rw [e0]
  simp only [Option.bind_some]
  by_cases n0 : r0 < 0
  · rw [if_pos (by simpa using n0)]; exact ⟨-1, rfl, .inl (by decide)⟩
  rw [if_neg (by simpa using n0)]
  replace g0 := g0.resolve_left n0
  obtain ⟨r1, e1, g1⟩ := sz_IntS u.2.2.1 hu.2 r0 (by omega) (by omega)
  rw [e1]
  simp only [Option.bind_some]
  by_cases n1 : r1 < 0
  · rw [if_pos (by simpa using n1)]; exact ⟨-1, rfl, .inl (by decide)⟩
  rw [if_neg (by simpa using n1)]
  replace g1 := g1.resolve_left n1
  exact ⟨_, rfl, .inr ⟨by omega, by omega⟩⟩
theorem to_Buf (u : (Int) × (List (Int)) × (List (Int)) × (Int)) (hu : w_Buf u ≤ 1000000000) : z6.f u.1 u.2.1 u.2.2.1 u.2.2.2 = some u := by
  have p0 := (wL_pos wZ_pos) u.2.1
  have p1 := (wL_pos wZ_pos) u.2.2.1
  unfold z6.f
  unfold w_Buf at hu
  rw [to_IntS u.2.1 (by omega)]
  rw [to_IntS u.2.2.1 (by omega)]
  rfl
theorem eq_Buf (u v : (Int) × (List (Int)) × (List (Int)) × (Int)) (hu : w_Buf u ≤ 1000000000) : z0r.f u.1 u.2.1 u.2.2.1 u.2.2.2 v.1 v.2.1 v.2.2.1 v.2.2.2 = some (decide (u = v)) := by
  have p0 := (wL_pos wZ_pos) u.2.1
  have p1 := (wL_pos wZ_pos) u.2.2.1
  unfold z0r.f
  unfold w_Buf at hu
  rw [eq_IntS u.2.1 v.2.1 (by omega)]
  rw [eq_IntS u.2.2.1 v.2.2.1 (by omega)]
  clear hu p0 p1
  obtain ⟨a0, a1, a2, a3⟩ := u
  obtain ⟨b0, b1, b2, b3⟩ := v
  by_cases h0 : a0 = b0
  case neg => simp [h0]
  by_cases h1 : a1 = b1
  case neg => simp [h0, h1]
  by_cases h2 : a2 = b2
  case neg => simp [h0, h1, h2]
  by_cases h3 : a3 = b3
  case neg => simp [h0, h1, h2, h3]
  simp [h0, h1, h2, h3]
def w_Decoder (u : (Int) × (Int) × (Int) × (ByteArray)) : Int := wStr u.2.2.2
def okw_Decoder (u : (Int) × (Int) × (Int) × (ByteArray)) : Prop := okStr u.2.2.2
theorem w_Decoder_pos (u : (Int) × (Int) × (Int) × (ByteArray)) : 0 ≤ w_Decoder u := by
  unfold w_Decoder
  have := wStr_pos u.2.2.2
  omega
theorem sz_Decoder (u : (Int) × (Int) × (Int) × (ByteArray)) (hu : okw_Decoder u) (n : Int) (h0 : 0 ≤ n) (h1 : n ≤ 1048576) : ∃ r, z0.f u.1 u.2.1 u.2.2.1 u.2.2.2 n = some r ∧ (r < 0 ∨ 0 ≤ r ∧ r + w_Decoder u ≤ n) := by
  have p0 := wStr_pos u.2.2.2
  unfold z0.f w_Decoder
  have hz0 : okStr u.2.2.2 := hu
  unfold okStr maxN at hz0
  rw [wrapS (n := n - (u.2.2.2.size : Int)) (by omega) (by omega)]
  by_cases n0 : n - (u.2.2.2.size : Int) < 0
  · rw [if_pos (by simpa using n0)]; exact ⟨-1, rfl, .inl (by decide)⟩
  rw [if_neg (by simpa using n0)]
  have g0 : wStr u.2.2.2 = u.2.2.2.size := rfl
  exact ⟨_, rfl, .inr ⟨by omega, by omega⟩⟩
theorem to_Decoder (u : (Int) × (Int) × (Int) × (ByteArray)) (hu : w_Decoder u ≤ 1000000000) : z4.f u.1 u.2.1 u.2.2.1 u.2.2.2 = some u := by
  have p0 := wStr_pos u.2.2.2
  unfold z4.f
  unfold w_Decoder at hu
  rfl
theorem eq_Decoder (u v : (Int) × (Int) × (Int) × (ByteArray)) (hu : w_Decoder u ≤ 1000000000) : z0p.f u.1 u.2.1 u.2.2.1 u.2.2.2 v.1 v.2.1 v.2.2.1 v.2.2.2 = some (decide (u = v)) := by
  have p0 := wStr_pos u.2.2.2
  unfold z0p.f
  unfold w_Decoder at hu
  simp only [baInj]
  clear hu p0
  obtain ⟨a0, a1, a2, a3⟩ := u
  obtain ⟨b0, b1, b2, b3⟩ := v
  by_cases h0 : a0 = b0
  case neg => simp [h0]
  by_cases h1 : a1 = b1
  case neg => simp [h0, h1]
  by_cases h2 : a2 = b2
  case neg => simp [h0, h1, h2]
  by_cases h3 : a3 = b3
  case neg => simp [h0, h1, h2, h3]
  simp [h0, h1, h2, h3]
theorem sz_Sess (en sh lo : Int) (hd : ByteArray) (mx : Int) (rs ls : List Int) (go : Int) (eof : Bool) (h1 : okStr hd) (h2 : okL okZ rs) (h3 : okL okZ ls) (n : Int) (a : 0 ≤ n) (b : n ≤ 1048576) : ∃ r, z3.f en sh lo hd mx rs ls go eof n = some r ∧ (r < 0 ∨ 0 ≤ r ∧ r + hd.size + rs.length + ls.length ≤ n) := by
  unfold z3.f
  obtain ⟨r0, e0, g0⟩ := sz_Decoder (en, sh, lo, hd) h1 n a b
  rw [e0]
  simp only [Option.bind_some]
  by_cases n0 : r0 < 0
  · rw [if_pos (by simpa using n0)]; exact ⟨-1, rfl, .inl (by decide)⟩
  rw [if_neg (by simpa using n0)]
  replace g0 := g0.resolve_left n0
  have w0 := w_Decoder_pos (en, sh, lo, hd)
  obtain ⟨r1, e1, g1⟩ := sz_Buf (mx, rs, ls, go) ⟨h2, h3⟩ r0 (by omega) (by omega)
  rw [e1]
  simp only [Option.bind_some]
  by_cases n1 : r1 < 0
  · rw [if_pos (by simpa using n1)]; exact ⟨-1, rfl, .inl (by decide)⟩
  rw [if_neg (by simpa using n1)]
  replace g1 := g1.resolve_left n1
  have k0 : w_Decoder (en, sh, lo, hd) = hd.size := rfl
  have k1 : w_Buf (mx, rs, ls, go) = wL wZ rs + wL wZ ls := rfl
  have k2 := wL_int rs
  have k3 := wL_int ls
  exact ⟨_, rfl, .inr ⟨by omega, by omega⟩⟩
theorem to_Sess (en sh lo : Int) (hd : ByteArray) (mx : Int) (rs ls : List Int) (go : Int) (eof : Bool) (h2 : rs.length ≤ 100000000) (h3 : ls.length ≤ 100000000) : z7.f en sh lo hd mx rs ls go eof = some (en, sh, lo, hd, mx, rs, ls, go, eof) := by
  have k1 : w_Buf (mx, rs, ls, go) = wL wZ rs + wL wZ ls := rfl
  have k2 := wL_int rs
  have k3 := wL_int ls
  unfold z7.f
  have e2 := to_Buf (mx, rs, ls, go) (by omega)
  dsimp only at e2
  rw [e2]
  rfl
theorem eq_Sess (en sh lo : Int) (hd : ByteArray) (mx : Int) (rs ls : List Int) (go : Int) (eof : Bool) (h2 : rs.length ≤ 100000000) (h3 : ls.length ≤ 100000000) : z0s.f en sh lo hd mx rs ls go eof en sh lo hd mx rs ls go eof = some true := by
  have k1 : w_Buf (mx, rs, ls, go) = wL wZ rs + wL wZ ls := rfl
  have k2 := wL_int rs
  have k3 := wL_int ls
  unfold z0s.f
  have e2 := eq_Buf (mx, rs, ls, go) (mx, rs, ls, go) (by omega)
  have e1 : z0p.f en sh lo hd en sh lo hd = some true := by unfold z0p.f; simp
  dsimp only at e2
  rw [e1, e2]
  simp
theorem p_heldIntS_l (n : Nat) (k0 : Int) (h0 : 0 ≤ k0) (h1 : k0 ≤ 1000000000000) (hp : n ≤ big) : ∀ (k i : Nat), i ≤ n → n - i < k → z0w.l1 (marks k0 n) k (k0 + i) i = some (.go (k0 + n)) := by
  intro k
  induction k with
  | zero => intro i _ h; omega
  | succ k ih =>
    intro i hi hk
    rw [z0w.l1, marks_len]
    by_cases h : i < n
    · have hm := rd?_at (xs := marks k0 n) (i := i) (by rw [marks_len]; exact h)
      have hg : (marks k0 n)[i]'(by rw [marks_len]; exact h) = k0 + i := by simp [marks]
      rw [if_pos (by simpa using h), hm, hg]
      simp only [Option.bind_some]
      unfold big at hp
      rw [if_neg (by simp), wrapN i (by omega), wrapS (by omega) (by omega), show k0 + (i : Int) + 1 = k0 + ((i + 1 : Nat) : Int) by omega]
      exact ih (i + 1) h (by omega)
    · rw [if_neg (by simpa using h)]
      obtain rfl : i = n := by omega
      rfl
theorem p_heldIntS (n : Nat) (k0 : Int) (h0 : 0 ≤ k0) (h1 : k0 ≤ 1000000000000) (hp : n ≤ big) : z0w.f (marks k0 n) k0 = some (k0 + n) := by
  unfold z0w.f
  have := p_heldIntS_l n k0 h0 h1 hp ((((marks k0 n).length : Int) - 0).toNat + 2) 0 (by omega) (by rw [marks_len]; omega)
  rw [show ((0 : Nat) : Int) = 0 from rfl, Int.add_zero] at this
  rw [this]
  rfl
theorem p_szBuf (m : Int) (rs ls : List Int) (g : Int) (n : Int) (h0 : 0 ≤ n) (h1 : n ≤ 1048576) (hr : rs.length ≤ maxN) (hl : ls.length ≤ maxN) : ∃ u, z2.f m rs ls g n = some u ∧ (u < 0 ∨ 0 ≤ u ∧ u + (rs.length + ls.length) ≤ n) := by
  unfold z2.f
  rw [p_szIntS rs n h0 h1 hr]
  simp only [Option.bind_some]
  by_cases h : (rs.length : Int) ≤ n
  · rw [if_pos h, if_neg (by simp; omega), p_szIntS ls _ (by omega) (by omega) hl]
    simp only [Option.bind_some]
    by_cases h2 : (ls.length : Int) ≤ n - rs.length
    · rw [if_pos h2, if_neg (by simp; omega)]; exact ⟨_, rfl, .inr ⟨by omega, by omega⟩⟩
    · rw [if_neg h2, if_pos (by decide)]; exact ⟨_, rfl, .inl (by decide)⟩
  · rw [if_neg h, if_pos (by decide)]; exact ⟨_, rfl, .inl (by decide)⟩
theorem p_toBuf (m : Int) (rs ls : List Int) (g : Int) (hr : rs.length ≤ big) (hl : ls.length ≤ big) : z6.f m rs ls g = some (m, rs, ls, g) := by
  unfold z6.f
  rw [p_toIntS rs hr, p_toIntS ls hl]
  rfl
theorem p_eqBuf (m : Int) (rs ls : List Int) (g : Int) (hr : rs.length ≤ big) (hl : ls.length ≤ big) : z0r.f m rs ls g m rs ls g = some true := by
  unfold z0r.f
  rw [p_eqIntS rs rs hr, p_eqIntS ls ls hl]
  simp
theorem p_markBuf (m : Int) (rs ls : List Int) (g : Int) (c : Int) (h0 : 0 ≤ c) (h1 : c + rs.length ≤ 1000000000000) (hr : rs.length ≤ big) (hl : ls.length ≤ big) : z0u.f m rs ls g c = some (c + rs.length + ls.length, marks c rs.length, marks (c + rs.length) ls.length) := by
  unfold z0u.f
  rw [p_markIntS rs c h0 (by omega) hr]
  simp only [Option.bind_some]
  rw [p_markIntS ls _ (by omega) h1 hl]
  rfl
theorem mark_Sess (en sh lo : Int) (hd : ByteArray) (mx : Int) (rs ls : List Int) (go : Int) (eof : Bool) (c : Int) (h0 : 0 ≤ c) (h1 : c + rs.length ≤ 1000000000000) (hr : rs.length ≤ big) (hl : ls.length ≤ big) : z0v.f en sh lo hd mx rs ls go eof c = some (c + rs.length + ls.length, marks c rs.length, marks (c + rs.length) ls.length) := by
  unfold z0v.f
  rw [p_markBuf mx rs ls go c h0 h1 hr hl]
  rfl
theorem p_heldBuf (m : Int) (n k : Nat) (g : Int) (c : Int) (h0 : 0 ≤ c) (h1 : c + n ≤ 1000000000000) (hn : n ≤ big) (hk : k ≤ big) : z0x.f m (marks c n) (marks (c + n) k) g c = some (c + n + k) := by
  unfold z0x.f
  rw [p_heldIntS n c h0 (by omega) hn]
  simp only [Option.bind_some]
  rw [if_neg (by simp; omega), p_heldIntS k _ (by omega) h1 hk]
  simp only [Option.bind_some]
  rw [if_neg (by simp; omega)]
theorem held_Sess (en sh lo : Int) (hd : ByteArray) (mx : Int) (n k : Nat) (go : Int) (eof : Bool) (c : Int) (h0 : 0 ≤ c) (h1 : c + n ≤ 1000000000000) (hn : n ≤ big) (hk : k ≤ big) : z0y.f en sh lo hd mx (marks c n) (marks (c + n) k) go eof c = some (c + n + k) := by
  unfold z0y.f
  rw [p_heldBuf mx n k go c h0 h1 hn hk]
  simp only [Option.bind_some]
  rw [if_neg (by simp; omega)]
theorem p_EndSession (en sh lo : Int) (hd : ByteArray) (mx : Int) (rs ls : List Int) (go : Int) (eof : Bool) (hr : rs.length ≤ big) (hl : ls.length ≤ big) : ∃ r : Int × Int × Int × ByteArray × Int × List Int × List Int × Int × Bool × List Int × Bool, z0o.f en sh lo hd mx rs ls go eof = some r ∧ zv.f en sh lo hd mx rs ls go eof = some r ∧ r.2.2.2.2.2.1.length ≤ 5000 ∧ r.2.2.2.2.2.2.1.length ≤ 5000 ∧ r.2.2.2.2.2.2.2.2.2.1.length ≤ 5000 := by
  unfold z0o.f zv.f
  simp only [p_implSess en sh lo hd mx rs ls go eof hr hl, p_specSess en sh lo hd mx rs ls go eof hr hl, Option.bind_some]
  cases hs : okSess en sh lo (yo hd) mx rs ls go eof with
  | false => exact ⟨(0, 0, 0, ⟨#[]⟩, 0, [], [], 0, false, [], false), rfl, rfl, by simp, by simp, by simp⟩
  | true =>
    simp only [Bool.not_true, Bool.false_eq_true, if_false, Option.bind_some]
    cases eof with
    | true => exact ⟨(0, 0, 0, ⟨#[]⟩, 0, [], [], 0, false, [], false), rfl, rfl, by simp, by simp, by simp⟩
    | false =>
      simp only [Bool.false_eq_true, if_false]
      simp only [okSess, Bool.and_eq_true] at hs
      obtain ⟨⟨hd1, hb1⟩, _⟩ := hs
      have hlen := okDec_len hd1
      have hsz := size_bytes hd
      have hb2 := hb1
      simp only [okBuf, Bool.and_eq_true, decide_eq_true_eq, beq_iff_eq] at hb2
      have hrs : rs.length ≤ 60 := by omega
      obtain ⟨ps, qs, i1, i2, i3, i4, i5, i6⟩ := p_flushL en (if en = 2 ∨ en = 3 then 2 else 1) rfl (hd.size + 2) hd [] [] (by omega) (by simp; omega) rfl rfl rfl
      simp only [List.length_nil] at i3
      have hu : ((z00.f en).bind fun u11 => if u11 = true then (some (2 : Int)) else (some 1)) = some (if en = 2 ∨ en = 3 then 2 else 1) := by
        rw [(p_units en).1]
        by_cases h : en = 2 ∨ en = 3 <;> simp [h]
      have P := p_putS en sh lo (⟨#[]⟩ : ByteArray) true mx rs ls go ps qs (by omega) (by omega) (by unfold big; omega) (by omega) i4
      unfold z0g.f z0f.f z0n.f z0h.f zn.f zu.f
      rw [p_clone rs hr, p_clone ls hl]
      simp only [Option.bind_some]
      rw [hu]
      simp only [Option.bind_some]
      rw [i1, i2]
      simp only [Option.bind_some]
      rw [P, p_PutBufS mx rs ls go ps qs hr hl (by unfold big; omega) (by unfold big; omega)]
      simp only [Option.bind_some]
      have hput : putOk mx rs ls go ps qs = okBuf mx ((rs ++ ps).drop (over mx (rs ++ ps))) ((ls ++ qs).drop (over mx (rs ++ ps))) (addAll go ((ls ++ qs).take (over mx (rs ++ ps)))) := by
        unfold putOk
        have d1 : decide (ps.length = qs.length) = true := by simpa using i4
        have d2 : decide (ps.length ≤ 1000) = true := by rw [decide_eq_true_eq]; omega
        rw [hb1, d1, d2, i5, i6]
        simp
      unfold putR
      rw [hput]
      have L1 : ((rs ++ ps).drop (over mx (rs ++ ps))).length ≤ 2000 := by simp; omega
      have L2 : ((ls ++ qs).drop (over mx (rs ++ ps))).length ≤ 2000 := by simp; omega
      have L3 : ((rs ++ ps).take (over mx (rs ++ ps))).length ≤ 2000 := by simp; omega
      cases hok : okBuf mx ((rs ++ ps).drop (over mx (rs ++ ps))) ((ls ++ qs).drop (over mx (rs ++ ps))) (addAll go ((ls ++ qs).take (over mx (rs ++ ps)))) with
      | false => exact ⟨(0, 0, 0, ⟨#[]⟩, 0, [], [], 0, false, [], false), rfl, rfl, by simp, by simp, by simp⟩
      | true =>
        simp only [if_true, Bool.not_true, Bool.false_eq_true, if_false]
        rw [p_specSess en sh lo ⟨#[]⟩ mx _ _ _ true (by unfold big; omega) (by unfold big; omega)]
        have ok2 : okSess en sh lo (yo (⟨#[]⟩ : ByteArray)) mx ((rs ++ ps).drop (over mx (rs ++ ps))) ((ls ++ qs).drop (over mx (rs ++ ps))) (addAll go ((ls ++ qs).take (over mx (rs ++ ps)))) true = true := by
          unfold okSess
          rw [bytes_nil, okDec_nil hd1, hok]
          rfl
        rw [ok2]
        exact ⟨_, rfl, rfl, Nat.le_trans L1 (by decide), Nat.le_trans L2 (by decide), Nat.le_trans L3 (by decide)⟩
theorem law_EndSession (en sh lo : Int) (hd : ByteArray) (mx : Int) (rs ls : List Int) (go : Int) (eof : Bool) (_ : inK .i64 en) (_ : inK .i64 sh) (_ : inK .i64 lo) (hhd : hd.size ≤ maxN) (_ : inK .i64 mx) (hrs : allW (inK .i64) rs) (hls : allW (inK .i64) ls) (_ : inK .i64 go) (_ : True) : z0z.f en sh lo hd mx rs ls go eof = some true := by
  unfold z0z.f
  obtain ⟨u, e, hu⟩ := sz_Sess en sh lo hd mx rs ls go eof hhd ⟨hrs.1, fun _ _ => trivial⟩ ⟨hls.1, fun _ _ => trivial⟩ 1048576 (by decide) (by decide)
  rw [e]
  simp only [Option.bind_some]
  by_cases h0 : u < 0
  · rw [if_pos (by simpa using h0)]
  rw [if_neg (by simpa using h0)]
  replace hu := hu.resolve_left h0
  have g3 : rs.length ≤ 100000000 := by omega
  have g4 : ls.length ≤ 100000000 := by omega
  have g3' : rs.length ≤ big := by unfold big; omega
  have g4' : ls.length ≤ big := by unfold big; omega
  obtain ⟨r, e1, e2, b1, b2, b3⟩ := p_EndSession en sh lo hd mx rs ls go eof g3' g4'
  have eq1 := eq_Sess r.1 r.2.1 r.2.2.1 r.2.2.2.1 r.2.2.2.2.1 r.2.2.2.2.2.1 r.2.2.2.2.2.2.1 r.2.2.2.2.2.2.2.1 r.2.2.2.2.2.2.2.2.1 (by omega) (by omega)
  have eq2 := p_eqIntS r.2.2.2.2.2.2.2.2.2.1 r.2.2.2.2.2.2.2.2.2.1 (by unfold big; omega)
  have m1 := mark_Sess en sh lo hd mx rs ls go eof 1 (by omega) (by omega) g3' g4'
  have m2 := mark_Sess r.1 r.2.1 r.2.2.1 r.2.2.2.1 r.2.2.2.2.1 r.2.2.2.2.2.1 r.2.2.2.2.2.2.1 r.2.2.2.2.2.2.2.1 r.2.2.2.2.2.2.2.2.1 1 (by omega) (by omega) (by unfold big; omega) (by unfold big; omega)
  have m3 := p_markIntS r.2.2.2.2.2.2.2.2.2.1 (1 + r.2.2.2.2.2.1.length + r.2.2.2.2.2.2.1.length) (by omega) (by omega) (by unfold big; omega)
  have m4 := held_Sess r.1 r.2.1 r.2.2.1 r.2.2.2.1 r.2.2.2.2.1 r.2.2.2.2.2.1.length r.2.2.2.2.2.2.1.length r.2.2.2.2.2.2.2.1 r.2.2.2.2.2.2.2.2.1 1 (by omega) (by omega) (by unfold big; omega) (by unfold big; omega)
  have m5 := p_heldIntS r.2.2.2.2.2.2.2.2.2.1.length (1 + r.2.2.2.2.2.1.length + r.2.2.2.2.2.2.1.length) (by omega) (by omega) (by unfold big; omega)
  have n1 : ¬ (1 + (rs.length : Int) + (ls.length : Int) < 0) := by omega
  have n2 : ¬ (1 + (r.2.2.2.2.2.1.length : Int) + (r.2.2.2.2.2.2.1.length : Int) < 0) := by omega
  have n3 : ¬ (1 + (r.2.2.2.2.2.1.length : Int) + (r.2.2.2.2.2.2.1.length : Int) + (r.2.2.2.2.2.2.2.2.2.1.length : Int) < 0) := by omega
  simp [to_Sess en sh lo hd mx rs ls go eof g3 g4, e1, e2, eq_Sess en sh lo hd mx rs ls go eof g3 g4, eq1, eq2, m1, m2, m3, m4, m5, n1, n2, n3]
end Go.Proofs.YtaojkgkajppkaaaDoor
