/- Plain laws of the printed functions. Conditions as each lemma says. -/
import Derived.Test.YtbeolahmnoeicaaGreatDoorPB
import Derived.Test.YtbeolahmnoeicaaGreatDoorWReadPeer1
set_option linter.unusedVariables false
set_option linter.unusedSimpArgs false
namespace Go.Proofs.YtbeolahmnoeicaaGreatDoor
open Go Go.Proofs.GL
theorem p_l1In (a b c : Int) : z0.f a b c = some (decide (b ≤ a) && decide (a ≤ c)) := by
  unfold z0.f
  by_cases h : b ≤ a
  · rw [if_pos (by simpa using h)]; simp [h]
  · rw [if_neg (by simpa using h)]; simp [h]
theorem p_inRange (a b c : Int) : zm.f a b c = some (decide (b ≤ a) && decide (a ≤ c)) := by
  unfold zm.f
  by_cases h : b ≤ a
  · rw [if_pos (by simpa using h)]; simp [h]
  · rw [if_neg (by simpa using h)]; simp [h]
def okRune (r : Int) : Bool := decide (0 ≤ r) && decide (r ≤ 1114111) && !(decide (55296 ≤ r) && decide (r ≤ 57343))
theorem p_specRune (r : Int) : z9.f r = some (okRune r) := by
  unfold z9.f okRune
  simp only [p_l1In, Option.bind_some]
  cases (decide (0 ≤ r) && decide (r ≤ 1114111)) <;> rfl
theorem p_implRune (r : Int) : zv.f r = some (okRune r) := by
  unfold zv.f okRune
  simp only [p_inRange, Option.bind_some]
  cases (decide (0 ≤ r) && decide (r ≤ 1114111)) <;> rfl
theorem p_allRunes (p : List Int) (hp : p.length ≤ big) : zd.f p = some (p.all okRune && decide (p.length ≤ 1000)) := by
  unfold zd.f
  have := all_loop p hp (fun u => !okRune u) false (zd.l1 p) (fun k i => by rw [zd.l1]; simp only [p_specRune, Option.bind_some]) (((p.length : Int) - 0).toNat + 2) 0 (by omega) (by omega)
  rw [show ((0 : Nat) : Int) = 0 from rfl] at this
  rw [this, List.drop_zero]
  have e : p.any (fun u => !okRune u) = !p.all okRune := by rw [List.all_eq_not_any_not]; simp
  rw [e]
  cases h : p.all okRune <;> simp
  omega
/-- The bytes of a rune. -/
def u8s (r : Int) : List Int := if r < 128 then [r] else if r < 2048 then [192 + r / 64, 128 + r % 64] else if r < 65536 then [224 + r / 4096, 128 + r / 64 % 64, 128 + r % 64] else [240 + r / 262144, 128 + r / 4096 % 64, 128 + r / 64 % 64, 128 + r % 64]
theorem u8s_len (r : Int) : (u8s r).length ≤ 4 := by
  unfold u8s
  split
  · simp
  · split
    · simp
    · split <;> simp
theorem bytes_text : ∀ (xs : List Int), (∀ u ∈ xs, 0 ≤ u ∧ u < 256) → y3 (textB xs) = xs := by
  have key : ∀ (xs : List Int) (s : ByteArray), (∀ u ∈ xs, 0 ≤ u ∧ u < 256) → y3 (xs.foldl (fun s n => s.push (UInt8.ofNat n.toNat)) s) = y3 s ++ xs := by
    intro xs
    induction xs with
    | nil => intro s _; simp
    | cons x xs ih =>
      intro s h
      obtain ⟨h0, h1⟩ := h x (by simp)
      rw [List.foldl_cons, ih _ fun v hv => h v (List.mem_cons_of_mem _ hv)]
      have e : y3 (s.push (UInt8.ofNat x.toNat)) = y3 s ++ [x] := by
        unfold y3
        simp [ByteArray.push]
        omega
      rw [e, List.append_assoc]
      rfl
  intro xs h
  unfold textB
  rw [key xs _ h]
  rfl
theorem quo_pos {r n : Int} (h0 : 0 ≤ r) (h1 : r ≤ 2000000) (hn : 1 ≤ n) (hn2 : n ≤ 1000000) : quo? .i64 r n = some (r / n) := by
  unfold quo?
  have h2 : r / n ≤ r := Int.ediv_le_self _ h0
  have h3 : 0 ≤ r / n := Int.ediv_nonneg h0 (by omega)
  rw [if_neg (by omega), Int.tdiv_eq_ediv_of_nonneg h0, wrapS (by omega) (by omega)]
theorem rem_pos {r n : Int} (h0 : 0 ≤ r) (hn : 1 ≤ n) : rem? r n = some (r % n) := by
  unfold rem?
  rw [if_neg (by omega), Int.tmod_eq_emod_of_nonneg h0]
theorem w8 {n : Int} (h0 : 0 ≤ n) (h1 : n ≤ 255) : IntKind.u8.wrap n = n := by rw [IntKind.wrap_u8]; omega
theorem u8s_in {r : Int} (h0 : 0 ≤ r) (h1 : r ≤ 1114111) : ∀ u ∈ u8s r, 0 ≤ u ∧ u < 256 := by
  unfold u8s
  intro u hu
  split at hu
  · simp at hu; omega
  · split at hu
    · simp at hu; omega
    · split at hu
      · simp at hu; omega
      · simp at hu; omega
theorem p_l1Utf8 (r : Int) (h0 : 0 ≤ r) (h1 : r ≤ 1114111) : za.f r = some (textB (u8s r)) := by
  unfold za.f u8s
  simp only [quo_pos (r := r) h0 (by omega) (show (1 : Int) ≤ 64 by omega) (by omega), quo_pos (r := r) h0 (by omega) (show (1 : Int) ≤ 4096 by omega) (by omega), quo_pos (r := r) h0 (by omega) (show (1 : Int) ≤ 262144 by omega) (by omega), rem_pos (r := r) h0 (show (1 : Int) ≤ 64 by omega), rem_pos (r := r / 64) (n := 64) (by omega) (by omega), rem_pos (r := r / 4096) (n := 64) (by omega) (by omega), Option.bind_some]
  by_cases c1 : r < 128
  · rw [if_pos (by simpa using c1), if_pos c1, w8 (by omega) (by omega)]
  · rw [if_neg (by simpa using c1), if_neg c1]
    by_cases c2 : r < 2048
    · rw [if_pos (by simpa using c2), if_pos c2, wrapS (n := 192 + r / 64) (by omega) (by omega), wrapS (n := 128 + r % 64) (by omega) (by omega), w8 (n := 192 + r / 64) (by omega) (by omega), w8 (n := 128 + r % 64) (by omega) (by omega)]
    · rw [if_neg (by simpa using c2), if_neg c2]
      by_cases c3 : r < 65536
      · rw [if_pos (by simpa using c3), if_pos c3, wrapS (n := 224 + r / 4096) (by omega) (by omega), wrapS (n := 128 + r / 64 % 64) (by omega) (by omega), wrapS (n := 128 + r % 64) (by omega) (by omega), w8 (n := 224 + r / 4096) (by omega) (by omega), w8 (n := 128 + r / 64 % 64) (by omega) (by omega), w8 (n := 128 + r % 64) (by omega) (by omega)]
      · rw [if_neg (by simpa using c3), if_neg c3, wrapS (n := 240 + r / 262144) (by omega) (by omega), wrapS (n := 128 + r / 4096 % 64) (by omega) (by omega), wrapS (n := 128 + r / 64 % 64) (by omega) (by omega), wrapS (n := 128 + r % 64) (by omega) (by omega), w8 (n := 240 + r / 262144) (by omega) (by omega), w8 (n := 128 + r / 4096 % 64) (by omega) (by omega), w8 (n := 128 + r / 64 % 64) (by omega) (by omega), w8 (n := 128 + r % 64) (by omega) (by omega)]
theorem b_and63 (n : Int) (h0 : 0 ≤ n) (h1 : n < 256) : bits .and .u8 n 63 = n % 64 := by
  obtain ⟨k, rfl⟩ := Int.eq_ofNat_of_zero_le h0
  have : ∀ k : Nat, k < 256 → bits .and .u8 (k : Int) 63 = (k : Int) % 64 := by decide +kernel
  exact this k (by omega)
theorem b_or128 (n : Int) (h0 : 0 ≤ n) (h1 : n < 64) : bits .or .u8 128 n = 128 + n := by
  obtain ⟨k, rfl⟩ := Int.eq_ofNat_of_zero_le h0
  have : ∀ k : Nat, k < 64 → bits .or .u8 128 (k : Int) = 128 + (k : Int) := by decide +kernel
  exact this k (by omega)
theorem b_or192 (n : Int) (h0 : 0 ≤ n) (h1 : n < 32) : bits .or .u8 192 n = 192 + n := by
  obtain ⟨k, rfl⟩ := Int.eq_ofNat_of_zero_le h0
  have : ∀ k : Nat, k < 32 → bits .or .u8 192 (k : Int) = 192 + (k : Int) := by decide +kernel
  exact this k (by omega)
theorem b_or224 (n : Int) (h0 : 0 ≤ n) (h1 : n < 16) : bits .or .u8 224 n = 224 + n := by
  obtain ⟨k, rfl⟩ := Int.eq_ofNat_of_zero_le h0
  have : ∀ k : Nat, k < 16 → bits .or .u8 224 (k : Int) = 224 + (k : Int) := by decide +kernel
  exact this k (by omega)
theorem b_or240 (n : Int) (h0 : 0 ≤ n) (h1 : n < 8) : bits .or .u8 240 n = 240 + n := by
  obtain ⟨k, rfl⟩ := Int.eq_ofNat_of_zero_le h0
  have : ∀ k : Nat, k < 8 → bits .or .u8 240 (k : Int) = 240 + (k : Int) := by decide +kernel
  exact this k (by omega)
theorem b_cont (q : Int) : bits .or .u8 128 (bits .and .u8 (IntKind.u8.wrap q) 63) = 128 + q % 64 := by
  have e : IntKind.u8.wrap q = q % 256 := by rw [IntKind.wrap_u8]
  rw [e, b_and63 _ (by omega) (by omega), b_or128 _ (by omega) (by omega)]
  omega
theorem shr32 (r : Int) (k : Nat) (hk : k ≤ 20) : shrK? .i32 r (k : Int) = some (r / 2 ^ k) := by
  unfold shrK?
  have e : min ((k : Int)).toNat IntKind.i32.bits = k := by
    have : IntKind.i32.bits = 32 := rfl
    rw [this]
    omega
  rw [if_pos (by omega), e, Int.fdiv_eq_ediv_of_nonneg _ (by exact Int.pow_nonneg (by omega))]
def wZ {α : Type} (_ : α) : Int := 0
def wStr (s : ByteArray) : Int := s.size
def wL {α : Type} (w : α → Int) (p : List α) : Int := p.length + sumW w p
def okZ {α : Type} (_ : α) : Prop := True
def okStr (s : ByteArray) : Prop := s.size ≤ maxN
def okL {α : Type} (ok : α → Prop) (p : List α) : Prop := p.length ≤ maxN ∧ ∀ u ∈ p, ok u
theorem wZ_pos {α : Type} (u : α) : 0 ≤ wZ u := Int.le_refl _
theorem wStr_pos (s : ByteArray) : 0 ≤ wStr s := by unfold wStr; omega
theorem wL_pos {α : Type} {w : α → Int} (h : ∀ u, 0 ≤ w u) (p : List α) : 0 ≤ wL w p := by
  have := sumW_pos (w := w) (us := p) fun u _ => h u
  unfold wL
  omega
theorem wL_len {α : Type} {w : α → Int} (h : ∀ u, 0 ≤ w u) (p : List α) : (p.length : Int) ≤ wL w p := by
  have := sumW_pos (w := w) (us := p) fun u _ => h u
  unfold wL
  omega
theorem wL_big {α : Type} {w : α → Int} (h : ∀ u, 0 ≤ w u) {p : List α} (hp : wL w p ≤ 1000000000) : p.length ≤ big := by
  have := wL_len h p
  unfold big
  omega
theorem wL_cap {α : Type} {w : α → Int} (h : ∀ u, 0 ≤ w u) {p : List α} (hp : wL w p ≤ 1000000000) {n : Nat} (hn : 1000000000 ≤ n) : p.length ≤ n := by
  have := wL_len h p
  omega
theorem wL_mem {α : Type} {w : α → Int} (h : ∀ u, 0 ≤ w u) {p : List α} (hp : wL w p ≤ 1000000000) {u : α} (hu : u ∈ p) : w u ≤ 1000000000 := by
  have := sumW_mem (w := w) (us := p) (fun u _ => h u) u hu
  unfold wL at hp
  omega
theorem sumW_zero {α : Type} {w : α → Int} : ∀ p : List α, (∀ u, w u = 0) → sumW w p = 0
  | [], _ => rfl
  | u :: us, h => by
    have := sumW_zero us h
    have := h u
    unfold sumW
    omega
theorem wL_int (p : List Int) : wL wZ p = p.length := by
  have := sumW_zero (w := wZ) p fun _ => rfl
  unfold wL
  omega
theorem rd_mid {α : Type} (pre : List α) (u : α) (us : List α) : rd? (pre ++ u :: us) (pre.length : Int) = some u := by rw [rd?_at (by simp)]; simp
theorem st_mid {α : Type} (pre : List α) (u v : α) (us : List α) : st? (pre ++ u :: us) (pre.length : Int) v = some (pre ++ v :: us) := by rw [st?_at _ (by simp)]; simp
theorem baT (b : ByteArray) : b.toList = b.data.toList := by
  have key : ∀ (k i : Nat) (r : List UInt8), b.size - i ≤ k → ByteArray.toList.loop b i r = r.reverse ++ b.data.toList.drop i := by
    intro k
    induction k with
    | zero =>
      intro i r h
      rw [ByteArray.toList.loop]
      rw [if_neg (by omega)]
      rw [List.drop_of_length_le (by simp; have : b.data.size = b.size := rfl; omega)]
      simp
    | succ k ih =>
      intro i r h
      rw [ByteArray.toList.loop]
      by_cases hi : i < b.size
      · rw [if_pos hi, ih (i+1) _ (by omega)]
        have hs : i < b.data.toList.length := by simpa using hi
        rw [List.drop_eq_getElem_cons hs]
        have e : b.get! i = b.data.toList[i] := by
          have h2 : i < b.data.size := hi
          show b.data[i]! = _
          rw [getElem!_pos b.data i h2]
          simp
        simp [e]
      · rw [if_neg hi, List.drop_of_length_le (by simp; have : b.data.size = b.size := rfl; omega)]
        simp
  have := key b.size 0 [] (by omega)
  simpa [ByteArray.toList] using this
theorem baInj {a b : ByteArray} : (a.toList == b.toList) = decide (a = b) := by
  rw [baT, baT, Bool.eq_iff_iff]
  simp only [beq_iff_eq, decide_eq_true_eq]
  constructor
  · intro h
    obtain ⟨⟨x⟩⟩ := a
    obtain ⟨⟨y⟩⟩ := b
    simp at h
    rw [h]
  · rintro rfl; rfl
theorem rdS_at (S : ByteArray) (i : Nat) : rdS? S (i : Int) = (y3 S)[i]? := by
  unfold rdS? y3
  rw [if_pos (by omega), List.getElem?_map, Array.getElem?_toList]
  rfl
theorem bytesB_inj {a b : ByteArray} (h : y3 a = y3 b) : a = b := by
  obtain ⟨⟨x⟩⟩ := a
  obtain ⟨⟨y⟩⟩ := b
  unfold y3 at h
  have h2 : x = y := by
    have key : ∀ x y : List UInt8, x.map (fun b : UInt8 => (b.toNat : Int)) = y.map (fun b : UInt8 => (b.toNat : Int)) → x = y := by
      intro x
      induction x with
      | nil => intro y h; cases y with
        | nil => rfl
        | cons _ _ => cases h
      | cons u x ih =>
        intro y h
        cases y with
        | nil => cases h
        | cons v y =>
          simp only [List.map_cons, List.cons.injEq] at h
          have : u = v := UInt8.toNat_inj.1 (by omega)
          rw [this, ih y h.2]
    exact key x y h
  rw [h2]
theorem strB (a b : ByteArray) : (a.toList == b.toList) = decide (y3 a = y3 b) := by
  rw [baInj, Bool.eq_iff_iff]
  simp only [decide_eq_true_eq]
  exact ⟨fun h => by rw [h], bytesB_inj⟩
theorem bytes_rng (S : ByteArray) : ∀ u ∈ y3 S, 0 ≤ u ∧ u < 256 := by
  unfold y3
  intro u hu
  obtain ⟨b, _, rfl⟩ := List.mem_map.1 hu
  have := b.toNat_lt
  omega
theorem bytes_nil : y3 (⟨#[]⟩ : ByteArray) = [] := rfl
theorem size_bytes (S : ByteArray) : S.size = (y3 S).length := (bytesB_len S).symm
theorem cutS_at (S : ByteArray) {a b : Nat} (h1 : a ≤ b) (h2 : b ≤ S.size) : ∃ T, cutS? S (a : Int) (b : Int) = some T ∧ y3 T = ((y3 S).take b).drop a := by
  unfold cutS?
  rw [if_pos ⟨by omega, by omega, by omega⟩]
  refine ⟨_, rfl, ?_⟩
  unfold y3
  simp [ByteArray.data_extract, List.extract_eq_take_drop, List.map_drop, List.map_take, List.drop_take]
theorem cat_at {n : Nat} {a b : ByteArray} (h : a.size + b.size ≤ n) : ∃ c, cat? n a b = some c ∧ y3 c = y3 a ++ y3 b := by
  unfold cat?
  rw [if_pos h]
  refine ⟨_, rfl, ?_⟩
  unfold y3
  simp
theorem cut0 {x : List Int} {n : Nat} (h : n ≤ x.length) : cut? x 0 (n : Int) = some (x.take n) := by
  have := cut?_at (xs := x) (a := 0) (b := n) (by omega) h
  rw [show ((0 : Nat) : Int) = 0 from rfl] at this
  simpa using this
theorem cutE {x : List Int} {n : Nat} (h : n ≤ x.length) : cut? x (n : Int) (x.length : Int) = some (x.drop n) := by
  have := cut?_at (xs := x) (a := n) (b := x.length) h (by omega)
  simpa using this
/-- What stands between a byte's places. -/
def splitL (c : Int) : List Int → List (List Int)
  | [] => [[]]
  | x :: l => if x = c then [] :: splitL c l else match splitL c l with
    | h :: t => (x :: h) :: t
    | [] => [[x]]
def glue (p : List Int) : List (List Int) → List (List Int)
  | h :: t => (p ++ h) :: t
  | [] => [p]
theorem splitL_ne (c : Int) : ∀ l, splitL c l ≠ []
  | [] => by simp [splitL]
  | x :: l => by
    unfold splitL
    split
    · simp
    · split <;> simp
theorem glue_nil {L : List (List Int)} (h : L ≠ []) : glue [] L = L := by
  cases L with
  | nil => exact absurd rfl h
  | cons a t => rfl
theorem glue_hit (p : List Int) (c : Int) (l : List Int) : glue p (splitL c (c :: l)) = p :: splitL c l := by
  rw [splitL, if_pos rfl]
  show (p ++ []) :: _ = _
  rw [List.append_nil]
theorem glue_miss (p : List Int) {c x : Int} (h : x ≠ c) (l : List Int) : glue p (splitL c (x :: l)) = glue (p ++ [x]) (splitL c l) := by
  rw [splitL, if_neg h]
  cases hs : splitL c l with
  | nil => exact absurd hs (splitL_ne c l)
  | cons a t => simp [glue]
theorem splitL_len (c : Int) : ∀ l, (splitL c l).length ≤ l.length + 1
  | [] => by simp [splitL]
  | x :: l => by
    have := splitL_len c l
    unfold splitL
    split
    · simp; omega
    · split
      · rename_i h t e
        rw [e] at this
        simp at this ⊢
        omega
      · simp
theorem splitL_no {c : Int} : ∀ {l : List Int}, c ∉ l → splitL c l = [l]
  | [], _ => rfl
  | x :: l, h => by
    have h1 : x ≠ c := fun e => h (e ▸ List.mem_cons_self ..)
    rw [splitL, if_neg h1, splitL_no fun hm => h (List.mem_cons_of_mem _ hm)]
theorem splitL_at {c : Int} : ∀ {a b : List Int}, c ∉ a → splitL c (a ++ c :: b) = a :: splitL c b
  | [], b, _ => by rw [List.nil_append, splitL, if_pos rfl]
  | x :: a, b, h => by
    have h1 : x ≠ c := fun e => h (e ▸ List.mem_cons_self ..)
    rw [List.cons_append, splitL, if_neg h1, splitL_at fun hm => h (List.mem_cons_of_mem _ hm)]
theorem p_l1Split (S : ByteArray) (c : Int) (hS : S.size ≤ 1000000000) : ∃ X, z5.f S c = some X ∧ X.map y3 = splitL c (y3 S) ∧ X.length ≤ S.size + 1 := by
  unfold z5.f
  have hz := size_bytes S
  have key : ∀ (k i frm : Nat) (out : List ByteArray), frm ≤ i → i ≤ S.size → S.size - i < k → out.length ≤ i → ∃ (out' : List ByteArray) (frm' : Nat), z5.l1 S c k out frm i = some (out', (frm' : Int)) ∧ frm' ≤ S.size ∧ out'.length ≤ S.size ∧ out'.map y3 ++ [(y3 S).drop frm'] = out.map y3 ++ glue (((y3 S).take i).drop frm) (splitL c ((y3 S).drop i)) := by
    intro k
    induction k with
    | zero => intro i frm out _ _ h; omega
    | succ k ih =>
      intro i frm out h1 h2 h3 h4
      rw [z5.l1]
      by_cases h : i < S.size
      · have hi : i < (y3 S).length := by omega
        rw [if_pos (by simp; omega), rdS_at, List.getElem?_eq_getElem hi]
        simp only [Option.bind_some]
        have hd : (y3 S).drop i = (y3 S)[i] :: (y3 S).drop (i + 1) := List.drop_eq_getElem_cons hi
        have hw : IntKind.i64.wrap ((i : Int) + 1) = ((i + 1 : Nat) : Int) := wrapN i (by omega)
        by_cases e : (y3 S)[i] = c
        · rw [if_pos (by simpa using e)]
          obtain ⟨T, e1, e2⟩ := cutS_at S h1 (show i ≤ S.size by omega)
          rw [e1]
          simp only [Option.bind_some]
          rw [app?_at (by simp; omega)]
          simp only [Option.bind_some]
          rw [hw]
          obtain ⟨o, f, g1, g2, g3, g4⟩ := ih (i + 1) (i + 1) (out ++ [T]) (Nat.le_refl _) (by omega) (by omega) (by simp; omega)
          refine ⟨o, f, g1, g2, g3, ?_⟩
          have hz0 : ((y3 S).take (i + 1)).drop (i + 1) = [] := List.drop_eq_nil_of_le (by simp; omega)
          rw [g4, hd, e, glue_hit, hz0, glue_nil (splitL_ne _ _), List.map_append, List.map_singleton, e2, List.append_assoc]
          rfl
        · rw [if_neg (by simpa using e)]
          simp only [Option.bind_some]
          rw [hw]
          obtain ⟨o, f, g1, g2, g3, g4⟩ := ih (i + 1) frm out (by omega) (by omega) (by omega) (by omega)
          refine ⟨o, f, g1, g2, g3, ?_⟩
          rw [g4, hd, glue_miss _ e]
          congr 2
          rw [List.take_succ_eq_append_getElem hi, List.drop_append_of_le_length (by simp; omega)]
      · rw [if_neg (by simp; omega)]
        have hi : (y3 S).drop i = [] := List.drop_eq_nil_of_le (by omega)
        refine ⟨out, frm, rfl, by omega, by omega, ?_⟩
        rw [hi]
        show _ = out.map y3 ++ [_ ++ []]
        rw [List.append_nil, List.take_of_length_le (by omega)]
  obtain ⟨o, f, g1, g2, g3, g4⟩ := key (((S.size : Int) - 0).toNat + 2) 0 0 [] (Nat.le_refl _) (Nat.zero_le _) (by omega) (Nat.zero_le _)
  rw [show ((0 : Nat) : Int) = 0 from rfl] at g1
  rw [g1]
  simp only [Option.bind_some]
  obtain ⟨T, e1, e2⟩ := cutS_at S g2 (Nat.le_refl _)
  rw [e1]
  simp only [Option.bind_some]
  rw [app?_at (by simp; omega)]
  refine ⟨_, rfl, ?_, by simp; omega⟩
  rw [List.map_append, List.map_singleton, e2, List.take_of_length_le (by omega), g4]
  simp only [List.map_nil, List.nil_append, List.take_zero, List.drop_nil, List.drop_zero]
  exact glue_nil (splitL_ne _ _)
theorem map_bytesB_inj : ∀ {X Y : List ByteArray}, X.map y3 = Y.map y3 → X = Y
  | [], [], _ => rfl
  | [], _ :: _, h => by cases h
  | _ :: _, [], h => by cases h
  | a :: X, b :: Y, h => by
    simp only [List.map_cons, List.cons.injEq] at h
    rw [bytesB_inj h.1, map_bytesB_inj h.2]
theorem mem_bytesB {S : ByteArray} {c : UInt8} : (c.toNat : Int) ∈ y3 S ↔ c ∈ S.data.toList := by
  unfold y3
  rw [List.mem_map]
  constructor
  · rintro ⟨b, hb, e⟩
    have : b = c := UInt8.toNat_inj.1 (by omega)
    exact this ▸ hb
  · intro h; exact ⟨c, h, rfl⟩
theorem bytesB_ext (S : ByteArray) (a b : Nat) : y3 (S.extract a b) = ((y3 S).take b).drop a := by
  unfold y3
  simp [ByteArray.data_extract, List.extract_eq_take_drop, List.map_drop, List.map_take, List.drop_take]
theorem p_splitB (c : UInt8) : ∀ (n : Nat) (S : ByteArray), S.size ≤ n → (Lib.splitB ⟨#[c]⟩ 0 (Lib.countB S ⟨#[c]⟩) S).map y3 = splitL c.toNat (y3 S) := by
  have h1 : (⟨#[c]⟩ : ByteArray).size = 1 := rfl
  intro n
  induction n with
  | zero =>
    intro S hS
    have hb : y3 S = [] := List.eq_nil_of_length_eq_zero (by have := size_bytes S; omega)
    have hi : Lib.indexB S ⟨#[c]⟩ = -1 := by
      rcases Lib.indexB_cases S ⟨#[c]⟩ with h | ⟨i, _, h⟩
      · exact h
      · rw [h1] at h; omega
    rw [Lib.splitB_miss _ _ _ _ hi, List.map_singleton, hb]
    rfl
  | succ n ih =>
    intro S hS
    have hz := size_bytes S
    have hdl : S.data.toList.length = S.size := by simp
    have hone := Lib.one S ⟨#[c]⟩ h1
    have hc : ((((⟨#[c]⟩ : ByteArray)[0].toNat : Nat) : Int)).toNat.toUInt8 = c := by
      show (c.toNat).toUInt8 = c
      simp
    rw [hc] at hone
    rcases Lib.indexB_cases S ⟨#[c]⟩ with h | ⟨i, h, hi⟩
    · rw [Lib.splitB_miss _ _ _ _ h, List.map_singleton, splitL_no]
      rw [h] at hone
      intro hm
      rw [mem_bytesB] at hm
      obtain ⟨k, hk, e⟩ := List.getElem_of_mem hm
      exact Lib.indexByte_none hone.symm k (by rw [List.getElem?_eq_getElem hk, e])
    · rw [h1] at hi
      rw [Lib.countB_hit S ⟨#[c]⟩ i (by rw [h1]; exact Nat.le_refl _) h, Nat.add_comm 1, Lib.splitB_hit _ _ _ _ _ h, List.map_cons, h1]
      rw [h] at hone
      obtain ⟨j1, j2⟩ := Lib.indexByte_some hone.symm
      have hsz : (S.extract (i + 1) S.size).size ≤ n := by
        rw [size_bytes, bytesB_ext, List.length_drop, List.length_take]; omega
      rw [ih _ hsz, bytesB_ext, bytesB_ext, Nat.add_zero, List.drop_zero, List.take_of_length_le (by omega : (y3 S).length ≤ S.size)]
      have hil : i < (y3 S).length := by omega
      have hci : (y3 S)[i] = c.toNat := by
        have : (y3 S)[i]? = some (c.toNat : Int) := by unfold y3; rw [List.getElem?_map, j1]; rfl
        rw [List.getElem?_eq_getElem hil] at this
        exact Option.some.inj this
      have hsp : y3 S = (y3 S).take i ++ (c.toNat : Int) :: (y3 S).drop (i + 1) := by
        rw [← hci, ← List.drop_eq_getElem_cons hil, List.take_append_drop]
      conv => rhs; rw [hsp]
      rw [splitL_at]
      intro hm
      obtain ⟨k, hk, e⟩ := List.mem_take_iff_getElem.1 hm
      refine j2 k (by omega) ?_
      have : (y3 S)[k]? = some (c.toNat : Int) := by rw [List.getElem?_eq_getElem (by omega), e]
      unfold y3 at this
      rw [List.getElem?_map] at this
      cases hg : S.data.toList[k]? with
      | none => rw [hg] at this; cases this
      | some d =>
        rw [hg] at this
        simp only [Option.map_some, Option.some.injEq] at this
        have : d = c := UInt8.toNat_inj.1 (by omega)
        rw [this]
theorem bytesB_text (l : List UInt8) : y3 ⟨l.toArray⟩ = l.map fun b => (b.toNat : Int) := by
  unfold y3
  simp
theorem toNat_inj {a b : List UInt8} (h : (a.map fun b => (b.toNat : Int)) = b.map fun b => (b.toNat : Int)) : a = b := by
  induction a generalizing b with
  | nil =>
    cases b with
    | nil => rfl
    | cons y b => cases h
  | cons x a ih =>
    cases b with
    | nil => cases h
    | cons y b =>
      simp only [List.map_cons, List.cons.injEq] at h
      rw [ih h.2, UInt8.toNat_inj.1 (show x.toNat = y.toNat by omega)]
theorem p_cut (S : ByteArray) (h : S.size < 4294967281) : ((32 : Int) ∉ y3 S ∧ zq.f S (⟨#[32]⟩ : ByteArray) = some (S, ⟨#[]⟩, false)) ∨ ∃ A B, zq.f S (⟨#[32]⟩ : ByteArray) = some (A, B, true) ∧ y3 S = y3 A ++ 32 :: y3 B ∧ (32 : Int) ∉ y3 A := by
  have h1 : (⟨#[32]⟩ : ByteArray).size = 1 := rfl
  unfold zq.f
  rw [if_pos h]
  have hz := size_bytes S
  have hone := Lib.one S ⟨#[32]⟩ h1
  have hc : ((((⟨#[32]⟩ : ByteArray)[0].toNat : Nat) : Int)).toNat.toUInt8 = 32 := rfl
  rw [hc] at hone
  have em : ∀ {i : Nat}, (y3 S)[i]? = some 32 → S.data.toList[i]? = some 32 := by
    intro i this
    unfold y3 at this
    rw [List.getElem?_map] at this
    cases hg : S.data.toList[i]? with
    | none => rw [hg] at this; cases this
    | some d =>
      rw [hg] at this
      simp only [Option.map_some, Option.some.injEq] at this
      rw [UInt8.toNat_inj.1 (show d.toNat = (32 : UInt8).toNat from by show d.toNat = 32; omega)]
  rcases Lib.indexB_cases S ⟨#[32]⟩ with hm | ⟨i, hi, hj⟩
  · left
    obtain ⟨c1, c2, c3⟩ := Lib.cutB_miss S ⟨#[32]⟩ hm
    rw [c1, c2, c3]
    refine ⟨fun hm2 => ?_, rfl⟩
    rw [hm] at hone
    obtain ⟨k, hk, e⟩ := List.getElem_of_mem hm2
    exact Lib.indexByte_none hone.symm k (em (by rw [List.getElem?_eq_getElem hk, e]))
  · right
    obtain ⟨c1, c2, c3⟩ := Lib.cutB_hit S ⟨#[32]⟩ i hi
    rw [c1, c2, c3]
    rw [hi] at hone
    rw [h1] at hj
    obtain ⟨j1, j2⟩ := Lib.indexByte_some hone.symm
    refine ⟨_, _, rfl, ?_, ?_⟩
    · rw [bytesB_ext, bytesB_ext, h1, List.drop_zero, List.take_of_length_le (by omega : (y3 S).length ≤ S.size)]
      have hil : i < (y3 S).length := by omega
      have hci : (y3 S)[i] = 32 := by
        have : (y3 S)[i]? = some ((32 : UInt8).toNat : Int) := by unfold y3; rw [List.getElem?_map, j1]; rfl
        rw [List.getElem?_eq_getElem hil] at this
        exact Option.some.inj this
      rw [← hci, ← List.drop_eq_getElem_cons hil, List.take_append_drop]
    · rw [bytesB_ext, List.drop_zero]
      intro hm
      obtain ⟨k, hk, e⟩ := List.mem_take_iff_getElem.1 hm
      exact j2 k (by omega) (em (by rw [List.getElem?_eq_getElem (by omega), e]))
theorem p_split (S : ByteArray) (c : UInt8) (h : S.size < 4294967281) : ∃ X, zp.f S ⟨#[c]⟩ = some X ∧ X.map y3 = splitL c.toNat (y3 S) := by
  unfold zp.f
  rw [if_pos ⟨h, by show 1 ≤ 1; omega, Lib.splitB_all _ (by show 1 ≤ 1; omega) 0 _ S rfl⟩]
  exact ⟨_, rfl, p_splitB c _ S (Nat.le_refl _)⟩
theorem p_say (S : ByteArray) : (∃ B, zt.f S (⟨#[115, 97, 121, 32]⟩ : ByteArray) = some (B, true) ∧ y3 S = 115 :: 97 :: 121 :: 32 :: y3 B) ∨ ∃ B, zt.f S (⟨#[115, 97, 121, 32]⟩ : ByteArray) = some (B, false) ∧ ∀ l, y3 S ≠ 115 :: 97 :: 121 :: 32 :: l := by
  unfold zt.f Lib.trimPrefix
  cases h : Lib.hasPrefix S.data.toList (⟨#[115, 97, 121, 32]⟩ : ByteArray).data.toList with
  | true =>
    left
    refine ⟨_, rfl, ?_⟩
    rw [if_pos rfl, bytesB_text]
    unfold Lib.hasPrefix at h
    rw [List.isPrefixOf_iff_prefix] at h
    obtain ⟨t, ht⟩ := h
    unfold y3
    rw [← ht]
    simp
  | false =>
    right
    refine ⟨_, rfl, fun l hl => ?_⟩
    have : Lib.hasPrefix S.data.toList (⟨#[115, 97, 121, 32]⟩ : ByteArray).data.toList = true := by
      unfold Lib.hasPrefix
      rw [List.isPrefixOf_iff_prefix]
      refine ⟨S.data.toList.drop 4, toNat_inj ?_⟩
      have e : (S.data.toList.map fun b => (b.toNat : Int)) = 115 :: 97 :: 121 :: 32 :: l := hl
      rw [e, List.map_append, List.map_drop, e]
      rfl
    rw [h] at this
    cases this
def isD (c : UInt8) : Bool := decide (48 ≤ c.toNat) && decide (c.toNat ≤ 57)
def V8 (a : Nat) (l : List UInt8) : Nat := l.foldl (fun a c => 10 * a + (c.toNat - 48)) a
/-- A number's digits, as a text has them. -/
def okN (l : List UInt8) : Prop := l ≠ [] ∧ (1 < l.length → l.head? ≠ some 48) ∧ l.all isD = true
theorem V8_snoc (a : Nat) (l : List UInt8) (x : UInt8) : V8 a (l ++ [x]) = 10 * V8 a l + (x.toNat - 48) := by unfold V8; rw [List.foldl_append]; rfl
theorem isD_rng {c : UInt8} (h : isD c = true) : 48 ≤ c.toNat ∧ c.toNat ≤ 57 := by
  unfold isD at h
  simpa using h
theorem dig_eq {c : UInt8} (h : isD c = true) : UInt8.ofNat (48 + (c.toNat - 48)) = c := by
  have := isD_rng h
  rw [show 48 + (c.toNat - 48) = c.toNat by omega]
  simp
theorem dec_of (l : List UInt8) : ∀ n, l.length = n → okN l → l = Lib.decDigits (V8 0 l) ∧ (1 < l.length → 10 ≤ V8 0 l) ∧ V8 0 l < 10 ^ l.length := by
  intro n
  induction n generalizing l with
  | zero => intro h ho; exact absurd (List.eq_nil_of_length_eq_zero h) ho.1
  | succ n ih =>
    intro hl ho
    obtain ⟨l', x, rfl⟩ : ∃ l' x, l = l' ++ [x] := by
      rcases List.eq_nil_or_concat l with rfl | ⟨l', x, h⟩
      · exact absurd rfl ho.1
      · exact ⟨l', x, by rw [h, List.concat_eq_append]⟩
    obtain ⟨h1, h2, h3⟩ := ho
    rw [List.all_append, Bool.and_eq_true] at h3
    have hx : isD x = true := by simpa using h3.2
    have hx' := isD_rng hx
    rw [V8_snoc]
    cases hl' : l' with
    | nil =>
      have hv : V8 0 ([] : List UInt8) = 0 := rfl
      rw [hv]
      refine ⟨?_, fun h => by simp at h, ?_⟩
      · rw [Lib.decDigits, dif_pos (by omega)]
        show [x] = [UInt8.ofNat (48 + (10 * 0 + (x.toNat - 48)))]
        rw [show 48 + (10 * 0 + (x.toNat - 48)) = 48 + (x.toNat - 48) by omega, dig_eq hx]
      · simp; omega
    | cons y t =>
      rw [← hl']
      have hne : l' ≠ [] := by rw [hl']; simp
      have hlen : 1 ≤ l'.length := List.length_pos_iff.2 hne
      have hhd : l'.head? ≠ some 48 := by
        have := h2 (by simp; omega)
        rw [List.head?_append] at this
        rw [hl'] at this ⊢
        simpa using this
      obtain ⟨g1, g2, g3⟩ := ih l' (by simp at hl; omega) ⟨hne, fun _ => hhd, h3.1⟩
      have hpos : 1 ≤ V8 0 l' := by
        by_cases h : 1 < l'.length
        · have := g2 h; omega
        · have h1l : l'.length = 1 := by omega
          rw [hl'] at h1l hhd h3 ⊢
          have ht : t = [] := List.eq_nil_of_length_eq_zero (by simpa using h1l)
          subst ht
          have hy : isD y = true := by have := h3.1; simpa using this
          have hy' := isD_rng hy
          have hy48 : y.toNat ≠ 48 := fun e => hhd (by
            show some y = some 48
            rw [show y = 48 from UInt8.toNat_inj.1 (by rw [e]; rfl)])
          show 1 ≤ 10 * 0 + (y.toNat - 48)
          omega
      refine ⟨?_, fun _ => by omega, ?_⟩
      · rw [Lib.decDigits, dif_neg (by omega), show (10 * V8 0 l' + (x.toNat - 48)) / 10 = V8 0 l' by omega, ← g1, show 48 + (10 * V8 0 l' + (x.toNat - 48)) % 10 = 48 + (x.toNat - 48) by omega, dig_eq hx]
      · rw [List.length_append, List.length_singleton, Nat.pow_succ]
        omega
theorem dec_ok : ∀ (n u : Nat), u ≤ n → okN (Lib.decDigits u) ∧ V8 0 (Lib.decDigits u) = u ∧ ∀ k, 1 ≤ k → u < 10 ^ k → (Lib.decDigits u).length ≤ k := by
  intro n
  induction n with
  | zero =>
    intro u hu
    obtain rfl : u = 0 := by omega
    rw [Lib.decDigits, dif_pos (by omega)]
    exact ⟨⟨by simp, by simp, by decide⟩, by decide, fun k hk _ => by simpa using hk⟩
  | succ n ih =>
    intro u hu
    have dig : ∀ d, d < 10 → isD (UInt8.ofNat (48 + d)) = true ∧ (UInt8.ofNat (48 + d)).toNat = 48 + d := fun d hd => by
      have : (UInt8.ofNat (48 + d)).toNat = 48 + d := by rw [UInt8.toNat_ofNat']; omega
      refine ⟨?_, this⟩
      unfold isD
      rw [this]
      simp; omega
    by_cases h : u < 10
    · obtain ⟨d1, d2⟩ := dig u h
      rw [Lib.decDigits, dif_pos h]
      refine ⟨⟨by simp, by simp, by simpa using d1⟩, ?_, fun k hk _ => by simpa using hk⟩
      show 10 * 0 + ((UInt8.ofNat (48 + u)).toNat - 48) = u
      omega
    · obtain ⟨⟨a1, a2, a3⟩, b, c⟩ := ih (u / 10) (by omega)
      obtain ⟨d1, d2⟩ := dig (u % 10) (by omega)
      rw [Lib.decDigits, dif_neg h]
      have hlen : 1 ≤ (Lib.decDigits (u / 10)).length := List.length_pos_iff.2 a1
      refine ⟨⟨by simp, fun _ => ?_, by rw [List.all_append, a3]; simpa using d1⟩, ?_, fun k hk hu => ?_⟩
      · obtain ⟨z, hz⟩ : ∃ z, (Lib.decDigits (u / 10)).head? = some z := by
          cases e : (Lib.decDigits (u / 10)).head? with
          | none => exact absurd (List.head?_eq_none_iff.1 e) a1
          | some z => exact ⟨z, rfl⟩
        rw [List.head?_append, hz]
        show some z ≠ some 48
        by_cases h1 : 1 < (Lib.decDigits (u / 10)).length
        · rw [← hz]; exact a2 h1
        · -- one digit, not nought
          have hl1 : (Lib.decDigits (u / 10)).length = 1 := by omega
          have hlt : u / 10 < 10 := by
            have := (dec_of _ _ rfl ⟨a1, a2, a3⟩).2.2
            rw [hl1, b] at this
            simpa using this
          rw [Lib.decDigits, dif_pos hlt] at hz
          have hz : UInt8.ofNat (48 + u / 10) = z := Option.some.inj hz
          intro e
          have e := congrArg UInt8.toNat (Option.some.inj e)
          rw [← hz, (dig _ hlt).2] at e
          have : (48 : UInt8).toNat = 48 := rfl
          omega
      · rw [V8_snoc, b, d2]; omega
      · rw [List.length_append, List.length_singleton]
        obtain ⟨k, rfl⟩ := Nat.exists_eq_succ_of_ne_zero (show k ≠ 0 by omega)
        by_cases hk0 : k = 0
        · subst hk0; simp at hu; omega
        · have := c k (by omega) (by rw [Nat.pow_succ] at hu; omega)
          omega
theorem parse_ok : ∀ (l : List UInt8) (a : Nat), l.all isD = true → (a + 1) * 10 ^ l.length ≤ 10 ^ 18 → Lib.parseUint10 a l = .ok (V8 a l)
  | [], a, _, _ => rfl
  | c :: l, a, h, hb => by
    rw [List.all_cons, Bool.and_eq_true] at h
    have hc := isD_rng h.1
    rw [List.length_cons, Nat.pow_succ] at hb
    have hp : 1 ≤ 10 ^ l.length := Nat.one_le_pow _ _ (by decide)
    have hb2 : (a + 1) * 10 ≤ 10 ^ 18 := by
      have : (a + 1) * 10 * 1 ≤ (a + 1) * 10 * 10 ^ l.length := Nat.mul_le_mul_left _ hp
      have e : (a + 1) * (10 ^ l.length * 10) = (a + 1) * 10 * 10 ^ l.length := by rw [Nat.mul_comm (10 ^ l.length) 10, Nat.mul_assoc]
      omega
    have e18 : 10 ^ 18 = 1000000000000000000 := by decide
    unfold Lib.parseUint10
    rw [if_pos ⟨hc.1, hc.2⟩, if_neg (by omega), if_neg (by omega), parse_ok l _ h.2 ?_]
    · congr 1
      show V8 (a * 10 + (c.toNat - 48)) l = V8 (10 * a + (c.toNat - 48)) l
      rw [Nat.mul_comm]
    · refine Nat.le_trans (Nat.mul_le_mul_right _ (show a * 10 + (c.toNat - 48) + 1 ≤ (a + 1) * 10 by omega)) ?_
      have e : (a + 1) * (10 ^ l.length * 10) = (a + 1) * 10 * 10 ^ l.length := by rw [Nat.mul_comm (10 ^ l.length) 10, Nat.mul_assoc]
      omega
theorem atoi_dec {l : List UInt8} (h : okN l) (hl : l.length ≤ 17) : Lib.atoiAll l = .ok (V8 0 l) := by
  obtain ⟨h1, h2, h3⟩ := h
  cases l with
  | nil => exact absurd rfl h1
  | cons c r =>
    have hc : isD c = true := by rw [List.all_cons, Bool.and_eq_true] at h3; exact h3.1
    have hc' := isD_rng hc
    have hp := parse_ok (c :: r) 0 h3 (by
      rw [Nat.zero_add, Nat.one_mul]
      exact Nat.pow_le_pow_right (by decide) (by omega))
    have hlt : V8 0 (c :: r) < 10 ^ 17 := Nat.lt_of_lt_of_le (dec_of _ _ rfl ⟨h1, h2, h3⟩).2.2 (Nat.pow_le_pow_right (by decide) hl)
    have e17 : 10 ^ 17 = 100000000000000000 := by decide
    unfold Lib.atoiAll Lib.parseMag
    dsimp only
    rw [if_neg (show ¬ (c.toNat = 43 ∨ c.toNat = 45) by omega), if_neg (by simp), hp]
    dsimp only
    rw [if_neg (by omega), if_neg (by omega), if_neg (by omega)]
/-- What is read as a number. -/
theorem p_l1Read (S : ByteArray) (hS : S.size ≤ 1000000000) : ∃ r, z6.f S = some r ∧ (r = -1 ∨ (okN S.data.toList ∧ S.size ≤ 6 ∧ r = V8 0 S.data.toList)) ∧ (okN S.data.toList → S.size ≤ 6 → r = V8 0 S.data.toList) := by
  have hdl : S.data.toList.length = S.size := by simp
  have hz := size_bytes S
  have hget : ∀ i (h : i < S.data.toList.length), (y3 S)[i]? = some ((S.data.toList[i]).toNat : Int) := fun i h => by
    unfold y3
    rw [List.getElem?_map, List.getElem?_eq_getElem h]
    rfl
  unfold z6.f
  have e1 : z0.f (S.size : Int) 1 6 = some (decide (1 ≤ S.size) && decide (S.size ≤ 6)) := by
    unfold z0.f
    by_cases h : 1 ≤ S.size
    · rw [if_pos (by simp; omega)]
      by_cases h2 : S.size ≤ 6
      · rw [decide_eq_true (by omega), decide_eq_true h, decide_eq_true h2]; rfl
      · rw [decide_eq_false (by omega), decide_eq_true h, decide_eq_false h2]; rfl
    · rw [if_neg (by simp; omega), decide_eq_false h]; rfl
  rw [e1]
  simp only [Option.bind_some]
  by_cases hb : 1 ≤ S.size ∧ S.size ≤ 6
  · rw [decide_eq_true hb.1, decide_eq_true hb.2]
    simp only [Bool.and_self, Bool.not_true, Bool.false_eq_true, if_false]
    have h0 : 0 < S.data.toList.length := by omega
    have r0 : rdS? S 0 = some ((S.data.toList[0]).toNat : Int) := by
      have := rdS_at S 0
      rw [show ((0 : Nat) : Int) = 0 from rfl] at this
      rw [this, hget 0 h0]
    rw [r0]
    simp only [Option.bind_some]
    have hhead : S.data.toList.head? = some S.data.toList[0] := by rw [List.head?_eq_getElem?, List.getElem?_eq_getElem h0]
    have hne : S.data.toList ≠ [] := List.length_pos_iff.1 h0
    by_cases hz0 : S.data.toList[0] = 48 ∧ 1 < S.size
    · have : ((S.data.toList[0]).toNat : Int) = 48 := by rw [hz0.1]; rfl
      rw [this]
      have d1 : decide ((S.size : Int) > 1) = true := by simp; omega
      simp only [beq_self_eq_true, if_true, Option.bind_some, d1]
      exact ⟨-1, rfl, .inl rfl, fun ho _ => absurd (by rw [hhead, hz0.1]) (ho.2.1 (by omega))⟩
    · have hc : ((if (((S.data.toList[0]).toNat : Int) == 48) = true then some (decide ((S.size : Int) > 1)) else some false) : Option Bool) = some false := by
        by_cases h48 : S.data.toList[0] = 48
        · have : ¬ 1 < S.size := fun h => hz0 ⟨h48, h⟩
          have d1 : decide ((S.size : Int) > 1) = false := by simp; omega
          rw [d1]; split <;> rfl
        · rw [if_neg]
          intro e
          refine h48 (UInt8.toNat_inj.1 ?_)
          have : ((S.data.toList[0]).toNat : Int) = 48 := by simpa using e
          have e48 : (48 : UInt8).toNat = 48 := rfl
          omega
      rw [hc]
      simp only [Option.bind_some, Bool.false_eq_true, if_false]
      have hhd : 1 < S.data.toList.length → S.data.toList.head? ≠ some 48 := fun h e => hz0 ⟨by rw [hhead] at e; exact Option.some.inj e, by omega⟩
      have key : ∀ (k i a : Nat), i ≤ S.size → S.size - i < k → a < 10 ^ i → V8 0 (S.data.toList.take i) = a → (S.data.toList.take i).all isD = true → ∃ o, z6.l1 S k (a : Int) (i : Int) = some o ∧ ((o = .ret (-1) ∧ S.data.toList.all isD = false) ∨ (S.data.toList.all isD = true ∧ o = .go (V8 0 S.data.toList : Int))) := by
        intro k
        induction k with
        | zero => intro i a _ h; omega
        | succ k ih =>
          intro i a h1 h2 h3 h4 h5
          rw [z6.l1]
          by_cases h : i < S.size
          · have hi : i < S.data.toList.length := by omega
            have rr : rdS? S (i : Int) = some ((S.data.toList[i]).toNat : Int) := by rw [rdS_at, hget i hi]
            rw [if_pos (by simp; omega), rr]
            simp only [Option.bind_some]
            have bd : (S.data.toList[i]).toNat < 256 := (S.data.toList[i]).toNat_lt
            have ha : a < 10 ^ 6 := Nat.lt_of_lt_of_le h3 (Nat.pow_le_pow_right (by decide) (by omega))
            have e6 : 10 ^ 6 = 1000000 := by decide
            by_cases hd : isD S.data.toList[i] = true
            · have hd' := isD_rng hd
              have c1 : decide (((S.data.toList[i]).toNat : Int) < 48) = false := decide_eq_false (by omega)
              have c2 : decide (((S.data.toList[i]).toNat : Int) > 57) = false := decide_eq_false (by omega)
              simp only [c1, c2, Bool.false_eq_true, if_false, Option.bind_some]
              have w0 : IntKind.u8.wrap (((S.data.toList[i]).toNat : Int) - 48) = (((S.data.toList[i]).toNat - 48 : Nat) : Int) := by rw [IntKind.wrap_u8]; omega
              rw [w0, wrapS (n := 10 * (a : Int)) (by omega) (by omega), wrapS (n := (((S.data.toList[i]).toNat - 48 : Nat) : Int)) (by omega) (by omega), wrapS (by omega) (by omega), wrapN i (by omega)]
              rw [show (10 * (a : Int) + (((S.data.toList[i]).toNat - 48 : Nat) : Int)) = ((10 * a + ((S.data.toList[i]).toNat - 48) : Nat) : Int) by omega]
              refine ih (i + 1) _ (by omega) (by omega) ?_ ?_ ?_
              · rw [Nat.pow_succ]; omega
              · rw [List.take_succ_eq_append_getElem hi, V8_snoc, h4]
              · rw [List.take_succ_eq_append_getElem hi, List.all_append, h5]; simpa using hd
            · have hall : S.data.toList.all isD = false := by
                rw [List.all_eq_false]
                exact ⟨_, List.getElem_mem hi, hd⟩
              have hcnd : ((if decide (((S.data.toList[i]).toNat : Int) < 48) = true then some true else some (decide (((S.data.toList[i]).toNat : Int) > 57))) : Option Bool) = some true := by
                unfold isD at hd
                simp only [Bool.and_eq_true, decide_eq_true_eq, not_and] at hd
                by_cases g : (S.data.toList[i]).toNat < 48
                · rw [if_pos (decide_eq_true (by omega))]
                · rw [if_neg (by rw [decide_eq_false (by omega)]; exact Bool.false_ne_true), decide_eq_true (by omega)]
              rw [hcnd]
              exact ⟨_, rfl, .inl ⟨rfl, hall⟩⟩
          · obtain rfl : i = S.size := by omega
            rw [if_neg (by simp)]
            rw [← hdl, List.take_length] at h4 h5
            exact ⟨_, rfl, .inr ⟨h5, by rw [h4]⟩⟩
      obtain ⟨o, g1, g2⟩ := key (((S.size : Int) - 0).toNat + 2) 0 0 (Nat.zero_le _) (by omega) (by decide) rfl rfl
      rw [show ((0 : Nat) : Int) = 0 from rfl] at g1
      rw [g1]
      rcases g2 with ⟨rfl, g3⟩ | ⟨g3, rfl⟩
      · exact ⟨-1, rfl, .inl rfl, fun ho _ => by rw [ho.2.2] at g3; cases g3⟩
      · exact ⟨_, rfl, .inr ⟨⟨hne, hhd, g3⟩, hb.2, rfl⟩, fun _ _ => rfl⟩
  · have : (decide (1 ≤ S.size) && decide (S.size ≤ 6)) = false := by
      rw [Bool.eq_false_iff]
      intro h
      simp only [Bool.and_eq_true, decide_eq_true_eq] at h
      exact hb h
    rw [this]
    exact ⟨-1, rfl, .inl rfl, fun ho h6 => absurd ⟨by have := List.length_pos_iff.2 ho.1; omega, h6⟩ hb⟩
/-- What the one side tells of a number, against the other. -/
theorem num_both (S : ByteArray) (r : Int) (h : r = -1 ∨ (okN S.data.toList ∧ S.size ≤ 6 ∧ r = V8 0 S.data.toList)) (h' : okN S.data.toList → S.size ≤ 6 → r = V8 0 S.data.toList) :
    (0 ≤ r → numR S = (r, true) ∧ r < 1000000) ∧ ((numR S).2 = true → (numR S).1 = r ∨ (numR S).1 < 0 ∨ 1000000 ≤ (numR S).1) := by
  have hdl : S.data.toList.length = S.size := by simp
  refine ⟨fun h0 => ?_, fun h2 => ?_⟩
  · rcases h with h | ⟨ho, h6, rfl⟩
    · omega
    · have hd := dec_of _ _ rfl ho
      have ha := atoi_dec ho (by omega)
      have hi : Lib.itoa (V8 0 S.data.toList : Int) = S.data.toList := by
        unfold Lib.itoa
        rw [if_neg (by omega), Int.toNat_natCast]
        exact hd.1.symm
      refine ⟨?_, ?_⟩
      · unfold numR
        rw [ha]
        dsimp only
        rw [hi, baT]
        simp
      · have : V8 0 S.data.toList < 10 ^ 6 := Nat.lt_of_lt_of_le hd.2.2 (Nat.pow_le_pow_right (by decide) (by omega))
        have e6 : 10 ^ 6 = 1000000 := by decide
        omega
  · unfold numR at h2 ⊢
    cases ha : Lib.atoiAll S.data.toList
    case ok v =>
      rw [ha] at h2
      dsimp only at h2 ⊢
      have hi : Lib.itoa v = S.data.toList := by
        rw [← baT]
        exact eq_of_beq h2
      by_cases h0 : v < 0
      · exact .inr (.inl h0)
      by_cases h6 : 1000000 ≤ v
      · exact .inr (.inr h6)
      left
      obtain ⟨u, rfl⟩ := Int.eq_ofNat_of_zero_le (show 0 ≤ v by omega)
      have hd : Lib.decDigits u = S.data.toList := by
        rw [← hi]
        unfold Lib.itoa
        rw [if_neg (by omega), Int.toNat_natCast]
      obtain ⟨o1, o2, o3⟩ := dec_ok u u (Nat.le_refl _)
      have := o3 6 (by decide) (by have e6 : 10 ^ 6 = 1000000 := by decide
                                   omega)
      rw [hd] at o1 o2 this
      rw [h' o1 (by omega), o2]
    all_goals (rw [ha] at h2; cases h2)
/-- Whether some element passes a test that may look at its place. -/
def anyI {α : Type} (t : Nat → α → Bool) : Nat → List α → Bool
  | _, [] => false
  | n, u :: us => t n u || anyI t (n + 1) us
theorem anyI_or {α : Type} (t v : Nat → α → Bool) : ∀ (n : Nat) (us : List α), anyI (fun i u => t i u || v i u) n us = (anyI t n us || anyI v n us)
  | _, [] => rfl
  | n, u :: us => by
    rw [anyI, anyI, anyI, anyI_or t v (n + 1) us]
    cases t n u <;> cases v n u <;> cases anyI t (n + 1) us <;> cases anyI v (n + 1) us <;> rfl
theorem anyI_any {α : Type} (t : α → Bool) : ∀ (n : Nat) (us : List α), anyI (fun _ u => t u) n us = us.any t
  | _, [] => rfl
  | n, u :: us => by rw [anyI, anyI_any t (n + 1) us, List.any_cons]
theorem anyI_congr {α : Type} {t v : Nat → α → Bool} : ∀ (n : Nat) (us : List α), (∀ i u, u ∈ us → t i u = v i u) → anyI t n us = anyI v n us
  | _, [], _ => rfl
  | n, u :: us, h => by rw [anyI, anyI, h n u (by simp), anyI_congr (n + 1) us fun i w hw => h i w (by simp [hw])]
theorem find_loop {α : Type} (p : List α) (hp : p.length ≤ big) (t : α → Bool) (L : Nat → Int → Option (Lo Unit Int))
    (h1 : ∀ (k i : Nat) (h : i < p.length), L (k + 1) (i : Int) = if t p[i] = true then some (.ret (i : Int)) else L k (IntKind.i64.wrap ((i : Int) + 1)))
    (h2 : ∀ (k i : Nat), ¬ i < p.length → L (k + 1) (i : Int) = some (.go ())) (n : Nat) (hn : p.length < n) :
    ((L n 0).bind fun o => match o with | .go () => some (-1) | .ret z => some z).bind (fun u => some (decide (u ≥ 0))) = some (p.any t) := by
  have key : ∀ (k i : Nat), i ≤ p.length → p.length - i < k → ((L k (i : Int)).bind fun o => match o with | .go () => some (-1) | .ret z => some z).bind (fun u => some (decide (u ≥ 0))) = some ((p.drop i).any t) := by
    intro k
    induction k with
    | zero => intro i _ h; omega
    | succ k ih =>
      intro i hi hk
      by_cases h : i < p.length
      · rw [h1 k i h, List.drop_eq_getElem_cons h, List.any_cons]
        cases ht : t p[i] with
        | true => simp
        | false =>
          rw [if_neg (by simp), wrapN i (by unfold big at hp; omega), ih (i + 1) h (by omega), Bool.false_or]
      · rw [h2 k i h, List.drop_eq_nil_of_le (by omega)]
        rfl
  exact key n 0 (by omega) (by omega)
theorem allI_loop {α ρ : Type} (p : List α) (hp : p.length ≤ big) (t : Nat → α → Bool) (c : ρ) (L : Nat → Int → Option (Lo Unit ρ))
    (h1 : ∀ (k i : Nat) (h : i < p.length), L (k + 1) (i : Int) = if t i p[i] = true then some (.ret c) else L k (IntKind.i64.wrap ((i : Int) + 1)))
    (h2 : ∀ (k i : Nat), ¬ i < p.length → L (k + 1) (i : Int) = some (.go ())) (n : Nat) (hn : p.length < n) :
    L n 0 = some (if anyI t 0 p = true then .ret c else .go ()) := by
  have key : ∀ (k i : Nat), i ≤ p.length → p.length - i < k → L k (i : Int) = some (if anyI t i (p.drop i) = true then .ret c else .go ()) := by
    intro k
    induction k with
    | zero => intro i _ h; omega
    | succ k ih =>
      intro i hi hk
      by_cases h : i < p.length
      · rw [h1 k i h, List.drop_eq_getElem_cons h, anyI]
        cases ht : t i p[i] with
        | true => simp
        | false =>
          rw [if_neg (by simp), wrapN i (by unfold big at hp; omega), ih (i + 1) h (by omega), Bool.false_or]
      · rw [h2 k i h, List.drop_eq_nil_of_le (by omega)]
        rfl
  exact key n 0 (by omega) (by omega)
theorem bindO {α β : Type} {x : Option α} {f : α → Option β} {a : α} {b : Option β} (h : x = some a) (h2 : f a = b) : x.bind f = b := by subst h; exact h2
theorem p_bytesOf (X : List ByteArray) (hX : X.length ≤ 1000000) (hs : ∀ S ∈ X, S.size ≤ 1000000) : ∃ z, z7.f X = some z ∧ z05.f X = some z := by
  unfold z7.f z05.f
  have key : ∀ (k i : Nat) (out : List Int), i ≤ X.length → X.length - i < k → out.length ≤ i → ∃ z, z7.l1 X k out i = some z ∧ z05.l1 X k out i = some z := by
    intro k
    induction k with
    | zero => intro i out _ h; omega
    | succ k ih =>
      intro i out hi hk ho
      rw [z7.l1, z05.l1]
      by_cases h : i < X.length
      · have hz := hs _ (List.getElem_mem h)
        rw [if_pos (by rw [decide_eq_true_eq]; omega), if_pos (by rw [decide_eq_true_eq]; omega), rd?_at h]
        obtain ⟨r, r1, r2, r3⟩ := p_l1Read X[i] (by omega)
        obtain ⟨n1, n2⟩ := num_both X[i] r r2 r3
        have hn : zr.f X[i] = some (numR X[i]) := if_pos (by omega)
        simp only [Option.bind_some, r1, hn, p_l1In, p_inRange]
        by_cases hr : 0 ≤ r ∧ r ≤ 255
        · have hd : (decide (0 ≤ r) && decide (r ≤ 255)) = true := by simpa using hr
          rw [(n1 hr.1).1]
          simp only [Option.bind_some, hd, Bool.not_true, Bool.false_eq_true, if_false]
          rw [app?_at (by simp; omega)]
          simp only [Option.bind_some]
          rw [wrapN i (by omega)]
          exact ih (i + 1) _ h (by omega) (by simp; omega)
        · have hd : (decide (0 ≤ r) && decide (r ≤ 255)) = false := by
            rw [Bool.and_eq_false_iff, decide_eq_false_iff_not, decide_eq_false_iff_not]
            omega
          simp only [hd, Bool.not_false, if_true, Option.bind_some]
          refine ⟨_, rfl, ?_⟩
          cases h2 : (numR X[i]).2 with
          | false => simp only [Bool.not_false, if_true, Option.bind_some]
          | true =>
            simp only [Bool.not_true, Bool.false_eq_true, if_false, Option.bind_some]
            have hd : (decide (0 ≤ (numR X[i]).1) && decide ((numR X[i]).1 ≤ 255)) = false := by
              rw [Bool.and_eq_false_iff, decide_eq_false_iff_not, decide_eq_false_iff_not]
              have e : 0 ≤ r → (numR X[i]).1 = r := fun h0 => by rw [(n1 h0).1]
              have := n2 h2
              by_cases h0 : 0 ≤ r
              · have := e h0; omega
              · omega
            simp only [hd, Bool.not_false, if_true]
      · rw [if_neg (by rw [decide_eq_true_eq]; omega), if_neg (by rw [decide_eq_true_eq]; omega)]
        exact ⟨_, rfl, rfl⟩
  obtain ⟨z, a, b⟩ := key (((X.length : Int) - 0).toNat + 2) 0 [] (Nat.zero_le _) (by omega) (Nat.le_refl _)
  rw [show ((0 : Nat) : Int) = 0 from rfl] at a b
  rw [a, b]
  cases z <;> exact ⟨_, rfl, rfl⟩
theorem text1 (a : Int) : textB [a] = ⟨#[UInt8.ofNat a.toNat]⟩ := rfl
theorem text2 (a b : Int) : textB [a, b] = ⟨#[UInt8.ofNat a.toNat, UInt8.ofNat b.toNat]⟩ := rfl
theorem text3 (a b c : Int) : textB [a, b, c] = ⟨#[UInt8.ofNat a.toNat, UInt8.ofNat b.toNat, UInt8.ofNat c.toNat]⟩ := rfl
theorem text4 (a b c d : Int) : textB [a, b, c, d] = ⟨#[UInt8.ofNat a.toNat, UInt8.ofNat b.toNat, UInt8.ofNat c.toNat, UInt8.ofNat d.toNat]⟩ := rfl
theorem okRune_of {r : Int} (hr : okRune r = true) : 0 ≤ r ∧ r ≤ 1114111 ∧ (r < 55296 ∨ 57343 < r) := by
  simp only [okRune, Bool.and_eq_true, decide_eq_true_eq, Bool.not_eq_true', Bool.and_eq_false_iff, decide_eq_false_iff_not] at hr
  omega
theorem enc_u8s (r : Int) (hr : okRune r = true) : Utf8.encode r = textB (u8s r) := by
  obtain ⟨h0, h1, h2⟩ := okRune_of hr
  obtain ⟨n, rfl⟩ := Int.eq_ofNat_of_zero_le h0
  have hv : Utf8.valid (n : Int) = true := by unfold Utf8.valid; simp; omega
  unfold Utf8.encode
  simp only [hv, if_true, Int.toNat_natCast]
  unfold u8s
  by_cases c1 : n < 128
  · rw [if_pos c1, if_pos (by omega), text1, Int.toNat_natCast]
  by_cases c2 : n < 2048
  · rw [if_neg c1, if_pos c2, if_neg (by omega), if_pos (by omega), text2, show ((192 : Int) + (n : Int) / 64).toNat = 192 + n / 64 by omega, show ((128 : Int) + (n : Int) % 64).toNat = 128 + n % 64 by omega]
  by_cases c3 : n < 65536
  · rw [if_neg c1, if_neg c2, if_pos c3, if_neg (by omega), if_neg (by omega), if_pos (by omega), text3, show ((224 : Int) + (n : Int) / 4096).toNat = 224 + n / 4096 by omega, show ((128 : Int) + (n : Int) / 64 % 64).toNat = 128 + n / 64 % 64 by omega, show ((128 : Int) + (n : Int) % 64).toNat = 128 + n % 64 by omega]
  · rw [if_neg c1, if_neg c2, if_neg c3, if_neg (by omega), if_neg (by omega), if_neg (by omega), text4, show ((240 : Int) + (n : Int) / 262144).toNat = 240 + n / 262144 by omega, show ((128 : Int) + (n : Int) / 4096 % 64).toNat = 128 + n / 4096 % 64 by omega, show ((128 : Int) + (n : Int) / 64 % 64).toNat = 128 + n / 64 % 64 by omega, show ((128 : Int) + (n : Int) % 64).toNat = 128 + n % 64 by omega]
theorem shr64 (r : Int) (k : Nat) (hk : k ≤ 20) : shrK? .i64 r (k : Int) = some (r / 2 ^ k) := by
  unfold shrK?
  have e : min ((k : Int)).toNat IntKind.i64.bits = k := by
    have : IntKind.i64.bits = 64 := rfl
    rw [this]
    omega
  rw [if_pos (by omega), e, Int.fdiv_eq_ediv_of_nonneg _ (by exact Int.pow_nonneg (by omega))]
theorem shr8i (r : Int) : shrK? .i64 r 8 = some (r / 256) := shr64 r 8 (by omega)
theorem shr10i (r : Int) : shrK? .i64 r 10 = some (r / 1024) := shr64 r 10 (by omega)
theorem and1023 (n : Int) (h0 : 0 ≤ n) (h1 : n < 2000000) : bits .and .i64 n 1023 = n % 1024 := by
  obtain ⟨v, rfl⟩ := Int.eq_ofNat_of_zero_le h0
  unfold bits
  have e1 : BitVec.ofInt IntKind.i64.bits (v : Int) = BitVec.ofNat 64 v := BitVec.ofInt_natCast 64 _
  have e2 : BitVec.ofInt IntKind.i64.bits (1023 : Int) = BitVec.ofNat 64 1023 := BitVec.ofInt_natCast 64 1023
  rw [e1, e2]
  dsimp only
  have e3 : (BitVec.ofNat 64 v &&& BitVec.ofNat 64 1023).toNat = v % 1024 := by
    rw [BitVec.toNat_and, BitVec.toNat_ofNat, BitVec.toNat_ofNat, Nat.mod_eq_of_lt (by omega), Nat.mod_eq_of_lt (by omega)]
    exact Nat.and_two_pow_sub_one_eq_mod v 10
  have key : IntKind.i64.wrap (((BitVec.ofNat 64 v &&& BitVec.ofNat 64 1023).toNat : Nat) : Int) = ((v % 1024 : Nat) : Int) := by
    rw [e3, wrapS (by omega) (by omega)]
  exact key.trans (by omega)
theorem p_unit (en r : Int) (h0 : 0 ≤ r) (h1 : r ≤ 65535) : z01.f en r = zf.f en r ∧ ∃ T, zf.f en r = some T ∧ T.size = 2 := by
  unfold z01.f zf.f
  have e : IntKind.u8.wrap (r % 256) = IntKind.u8.wrap r := by rw [IntKind.wrap_u8, IntKind.wrap_u8]; omega
  simp only [shr8i, quo_pos (r := r) h0 (by omega) (show (1 : Int) ≤ 256 by omega) (by omega), rem_pos (r := r) h0 (show (1 : Int) ≤ 256 by omega), Option.bind_some, e]
  refine ⟨trivial, ?_⟩
  split
  · exact ⟨_, rfl, rfl⟩
  · exact ⟨_, rfl, rfl⟩
theorem p_areRunes (p : List Int) (n : Int) (hp : p.length ≤ big) : zz.f p n = some (decide ((p.length : Int) ≤ n) && p.all okRune) := by
  unfold zz.f zy.f zx.f
  by_cases h : (p.length : Int) ≤ n
  · rw [if_pos (by simpa using h)]
    have := scan_loop p hp (fun u => !okRune u) (fun i _ => i) (zx.l1 p) (fun k i => by rw [zx.l1]; simp only [zw.f, p_implRune, Option.bind_some]) (((p.length : Int) - 0).toNat + 2) 0 (by omega) (by omega)
    rw [show ((0 : Nat) : Int) = 0 from rfl] at this
    rw [this, List.drop_zero]
    have e : p.all okRune = !(p.any fun u => !okRune u) := List.all_eq_not_any_not
    rw [e]
    cases hf : p.findIdx? (fun u => !okRune u) with
    | none =>
      have : p.any (fun u => !okRune u) = false := by
        rw [List.findIdx?_eq_none_iff] at hf
        simpa using hf
      rw [this]; simp [h]
    | some j =>
      obtain ⟨hj, h1, h2⟩ := List.findIdx?_eq_some_iff_getElem.1 hf
      have : p.any (fun u => !okRune u) = true := List.any_eq_true.2 ⟨_, List.getElem_mem hj, h1⟩
      rw [this]
      simp [hj]
  · rw [if_neg (by simpa using h)]
    simp [h]
theorem text_size (xs : List Int) : (textB xs).size = xs.length := by
  have key : ∀ (xs : List Int) (s : ByteArray), (xs.foldl (fun s n => s.push (UInt8.ofNat n.toNat)) s).size = s.size + xs.length := by
    intro xs
    induction xs with
    | nil => intro s; rfl
    | cons x xs ih =>
      intro s
      rw [List.foldl_cons, ih, List.length_cons, ByteArray.size_push]
      omega
  exact (key xs .empty).trans (Nat.zero_add _)
theorem cat_some {a b : ByteArray} (h : a.size + b.size ≤ 1000000000000) : cat? 1000000000000 a b = some (a ++ b) := if_pos h
theorem p_code (en : Int) : z4.f en = some (decide (1 ≤ en) && decide (en ≤ 5)) ∧ zn.f en = some (decide (1 ≤ en) && decide (en ≤ 5)) := by
  unfold z4.f zn.f
  rw [p_l1In, p_inRange]
  exact ⟨rfl, rfl⟩
/-- One rune: what is written, and whether it can be written. -/
theorem one_ne (en r st : Int) (h1 : 1 ≤ en) (h4 : en ≤ 4) (hr : okRune r = true) : ∃ T ok, zg.f en st r = some (T, 0, ok) ∧ z00.f en r = some ok ∧ T.size ≤ 4 ∧ (ok = true → encOne en r = some T) := by
  obtain ⟨r0, r1, r2⟩ := okRune_of hr
  have hu : ∀ e, ze.f e = some (decide (e = 2) || decide (e = 3)) := by
    intro e
    unfold ze.f
    by_cases e2 : e = 2
    · subst e2; rfl
    · rw [if_neg (by simpa using e2)]
      simp [e2]
      rfl
  by_cases e1 : en = 1
  · subst e1
    refine ⟨textB (u8s r), true, ?_, rfl, ?_, fun _ => ?_⟩
    · unfold zg.f
      rw [if_pos (by decide), p_l1Utf8 r r0 r1]
      rfl
    · rw [text_size]; exact u8s_len r
    · unfold encOne
      rw [if_pos (by decide), enc_u8s r hr]
  by_cases e4 : en = 4
  · subst e4
    refine ⟨textB [IntKind.u8.wrap r], decide (r < 256), ?_, ?_, ?_, fun _ => ?_⟩
    · unfold zg.f
      rw [hu]
      rfl
    · unfold z00.f
      rw [if_pos (by decide)]
      congr 2
      simp
      omega
    · rw [text_size]; simp
    · unfold encOne
      rw [if_neg (by decide), if_pos (by decide)]
      rfl
  have e23 : en = 2 ∨ en = 3 := by omega
  have hen : (decide (en = 2) || decide (en = 3)) = true := by simpa using e23
  have hb1 : (en == 1) = false := by simpa using e1
  have hb4 : (en == 4) = false := by simpa using e4
  have hb5 : (en == 5) = false := by simp; omega
  have hcan : z00.f en r = some true := by
    unfold z00.f
    rw [hb4, hb5]
    rfl
  have hone : encOne en r = z02.f en r := by
    unfold encOne
    rw [if_neg e1, if_neg e4]
  rw [hone, hcan]
  by_cases hr6 : r < 65536
  · obtain ⟨p1, T, p2, p3⟩ := p_unit en r r0 (by omega)
    refine ⟨T, true, ?_, rfl, by omega, fun _ => ?_⟩
    · unfold zg.f
      rw [hb1, hu, hen]
      simp only [Option.bind_some, if_true, Bool.false_eq_true, if_false]
      rw [if_pos (by simpa using hr6), p2]
      rfl
    · unfold z02.f
      rw [if_pos (by simpa using hr6), p1, p2]
      rfl
  · have hw1 : IntKind.i64.wrap (r - 65536) = r - 65536 := wrapS (by omega) (by omega)
    have hw2 : IntKind.i64.wrap (55296 + (r - 65536) / 1024) = 55296 + (r - 65536) / 1024 := wrapS (by omega) (by omega)
    have hw3 : IntKind.i64.wrap (56320 + (r - 65536) % 1024) = 56320 + (r - 65536) % 1024 := wrapS (by omega) (by omega)
    obtain ⟨p1, T, p2, p3⟩ := p_unit en (55296 + (r - 65536) / 1024) (by omega) (by omega)
    obtain ⟨q1, U, q2, q3⟩ := p_unit en (56320 + (r - 65536) % 1024) (by omega) (by omega)
    refine ⟨T ++ U, true, ?_, rfl, by rw [ByteArray.size_append]; omega, fun _ => ?_⟩
    · unfold zg.f
      rw [hb1, hu, hen]
      simp only [Option.bind_some, if_true, Bool.false_eq_true, if_false]
      rw [if_neg (by simpa using hr6)]
      simp only [Option.bind_some, if_true, Bool.false_eq_true, if_false, hw1]
      rw [quo_pos (by omega) (by omega) (by omega) (by omega), rem_pos (by omega) (by omega)]
      simp only [Option.bind_some]
      rw [hw2, hw3, p2, q2]
      simp only [Option.bind_some]
      rw [cat_some (by omega)]
      rfl
    · unfold z02.f
      rw [if_neg (by simpa using hr6), hw1, shr10i]
      simp only [Option.bind_some]
      rw [and1023 _ (by omega) (by omega), hw2, hw3, p1, q1, p2, q2]
      simp only [Option.bind_some]
      rw [cat_some (by omega)]
      rfl
def bi (b : Bool) : Int := if b then 1 else 0
theorem b8_text (r : Int) : (textB [IntKind.u8.wrap r]).data.toList = [b8 r] := by
  rw [text1]
  unfold b8
  rw [IntKind.wrap_u8]
theorem one_5 (r : Int) (on : Bool) (hr : okRune r = true) : ∃ T on' ok, zg.f 5 (bi on) r = some (T, (if ok = true then bi on' else (if r < 32 then bi on else 0)), ok) ∧ z00.f 5 r = some ok ∧ T.size ≤ 4 ∧ (ok = true → ∀ l acc, shR (r :: l) on acc = shR l on' (acc ++ T.data.toList)) := by
  obtain ⟨r0, r1, r2⟩ := okRune_of hr
  have hu : ze.f 5 = some false := rfl
  have hcw : z00.f 5 r = some ((decide (r < 127) && (r != 14 && r != 15)) || (decide (12352 ≤ r) && decide (r ≤ 12446))) := by
    unfold z00.f
    rw [if_neg (by decide), if_pos (by decide), p_inRange]
    by_cases c1 : r < 127
    · rw [if_pos (by simpa using c1)]
      by_cases c2 : r = 14
      · subst c2; rfl
      by_cases c3 : r = 15
      · subst c3; rfl
      rw [if_pos (by simpa using c2), if_pos (by simpa using c3)]
      simp [c1, c2, c3]
    · rw [if_neg (by simpa using c1)]
      simp [c1]
  rw [hcw]
  have hput : ∀ st, zg.f 5 st r = if decide (r < 32) = true then (if (r != 14) = true then (some ((textB [IntKind.u8.wrap r]), st, (r != 15))) else (some ((textB [IntKind.u8.wrap r]), st, false))) else (if 12352 ≤ r ∧ r ≤ 12446 then ((if ((1 : Int) != st) = true then ((cat? 1000000000000 (textB [IntKind.u8.wrap (IntKind.i64.wrap (15 - 1))]) (textB [IntKind.u8.wrap (r - 12352 + 32)])).bind fun u119 => some u119) else (some (textB [IntKind.u8.wrap (r - 12352 + 32)]))).bind fun o => some (o, 1, true)) else if r ≤ 126 then ((if ((0 : Int) != st) = true then ((cat? 1000000000000 (textB [IntKind.u8.wrap (IntKind.i64.wrap (15 - 0))]) (textB [IntKind.u8.wrap r])).bind fun u119 => some u119) else (some (textB [IntKind.u8.wrap r]))).bind fun o => some (o, 0, true)) else some (⟨#[]⟩, 0, false)) := by
    intro st
    unfold zg.f
    rw [if_neg (by decide), hu]
    simp only [Option.bind_some, Bool.false_eq_true, if_false]
    rw [if_neg (by decide), p_l1In]
    by_cases c0 : r < 32
    · have hc : decide (r < 32) = true := by simpa using c0
      simp only [hc, if_true]
    · have hc : decide (r < 32) = false := by simpa using c0
      simp only [hc, Bool.false_eq_true, if_false]
      by_cases ck : 12352 ≤ r ∧ r ≤ 12446
      · rw [if_pos ck]
        simp only [Option.bind_some]
        rw [if_pos (by simpa using ck)]
        simp only [Option.bind_some]
        rw [wrapS (n := r - 12352) (by omega) (by omega), wrapS (n := r - 12352 + 32) (by omega) (by omega), p_l1In]
        simp only [Option.bind_some]
        rw [if_neg (by simp; omega), if_neg (by decide)]
        simp only [Option.bind_some, Bool.false_eq_true, if_false]
      · rw [if_neg ck]
        simp only [Option.bind_some]
        rw [if_neg (by simpa using ck)]
        simp only [Option.bind_some]
        rw [p_l1In]
        simp only [Option.bind_some]
        by_cases cm : r ≤ 126
        · rw [if_pos cm, if_neg (by simp; omega), if_pos (by decide)]
          simp only [Option.bind_some]
          rw [if_neg (by simp; omega)]
        · rw [if_neg cm, if_pos (by simp; omega)]
          simp only [Option.bind_some, if_true]
  by_cases c0 : r < 32
  · have hd : (decide (r < 127) && (r != 14 && r != 15) || decide (12352 ≤ r) && decide (r ≤ 12446)) = (r != 14 && r != 15) := by
      rw [show decide (r < 127) = true by simp; omega, show decide (12352 ≤ r) = false by simp; omega]
      simp
    rw [hd]
    refine ⟨textB [IntKind.u8.wrap r], on, (r != 14 && r != 15), ?_, rfl, by rw [text_size]; simp, fun _ l acc => ?_⟩
    · rw [hput, if_pos (by simpa using c0), if_pos c0]
      by_cases c2 : r = 14
      · subst c2; rfl
      · rw [if_pos (by simpa using c2)]
        simp [c2]
    · rw [shR, if_pos c0, b8_text]
  by_cases ck : 12352 ≤ r ∧ r ≤ 12446
  · have hd : (decide (r < 127) && (r != 14 && r != 15) || decide (12352 ≤ r) && decide (r ≤ 12446)) = true := by
      simp
      omega
    rw [hd]
    have hw : (textB [IntKind.u8.wrap (r - 12352 + 32)]).data.toList = [b8 (r - 12352 + 32)] := b8_text _
    cases on with
    | true =>
      refine ⟨textB [IntKind.u8.wrap (r - 12352 + 32)], true, true, ?_, rfl, by rw [text_size]; simp, fun _ l acc => ?_⟩
      · rw [hput, if_neg (by simpa using c0), if_pos ck, if_neg (by decide)]
        rfl
      · rw [shR, if_neg c0, if_neg (by omega), hw]
        simp [tnR]
    | false =>
      refine ⟨textB [14] ++ textB [IntKind.u8.wrap (r - 12352 + 32)], true, true, ?_, rfl, by rw [ByteArray.size_append, text_size, text_size]; simp, fun _ l acc => ?_⟩
      · rw [hput, if_neg (by simpa using c0), if_pos ck, if_pos (by decide), show IntKind.u8.wrap (IntKind.i64.wrap (15 - 1)) = 14 by decide, cat_some (by rw [text_size, text_size]; simp)]
        rfl
      · rw [shR, if_neg c0, if_neg (by omega), ByteArray.data_append, Array.toList_append, hw]
        simp [tnR, text1]
  · by_cases cm : r ≤ 126
    · have hd : (decide (r < 127) && (r != 14 && r != 15) || decide (12352 ≤ r) && decide (r ≤ 12446)) = true := by
        simp
        omega
      rw [hd]
      have hw : (textB [IntKind.u8.wrap r]).data.toList = [b8 r] := b8_text _
      cases on with
      | false =>
        refine ⟨textB [IntKind.u8.wrap r], false, true, ?_, rfl, by rw [text_size]; simp, fun _ l acc => ?_⟩
        · rw [hput, if_neg (by simpa using c0), if_neg ck, if_pos cm, if_neg (by decide)]
          rfl
        · rw [shR, if_neg c0, if_pos (by omega), hw]
          simp [tnR]
      | true =>
        refine ⟨textB [15] ++ textB [IntKind.u8.wrap r], false, true, ?_, rfl, by rw [ByteArray.size_append, text_size, text_size]; simp, fun _ l acc => ?_⟩
        · rw [hput, if_neg (by simpa using c0), if_neg ck, if_pos cm, if_pos (by decide), show IntKind.u8.wrap (IntKind.i64.wrap (15 - 0)) = 15 by decide, cat_some (by rw [text_size, text_size]; simp)]
          rfl
        · rw [shR, if_neg c0, if_pos (by omega), ByteArray.data_append, Array.toList_append, hw]
          simp [tnR, text1]
    · have hd : (decide (r < 127) && (r != 14 && r != 15) || decide (12352 ≤ r) && decide (r ≤ 12446)) = false := by
        rw [show decide (r < 127) = false by simp; omega]
        simp
        omega
      rw [hd]
      refine ⟨⟨#[]⟩, on, false, ?_, rfl, by decide, fun h => by cases h⟩
      rw [hput, if_neg (by simpa using c0), if_neg ck, if_neg cm, if_neg (by decide), if_neg c0]
/-- What is written behind acc. -/
def Fw (en : Int) (on : Bool) (l : List Int) (acc : List UInt8) : Option (List UInt8) := if en = 5 then some (shR l on acc) else encR en l acc
theorem one_all (en r : Int) (on : Bool) (h1 : 1 ≤ en) (h5 : en ≤ 5) (hr : okRune r = true) (hon : en ≠ 5 → on = false) : ∃ T on' ok st, zg.f en (bi on) r = some (T, st, ok) ∧ z00.f en r = some ok ∧ T.size ≤ 4 ∧ (ok = true → st = bi on' ∧ (en ≠ 5 → on' = false) ∧ ∀ l acc, Fw en on (r :: l) acc = Fw en on' l (acc ++ T.data.toList)) := by
  by_cases e5 : en = 5
  · subst e5
    obtain ⟨T, on', ok, a, b, c, d⟩ := one_5 r on hr
    refine ⟨T, on', ok, _, a, b, c, fun h => ⟨if_pos h, fun h => absurd rfl h, fun l acc => ?_⟩⟩
    unfold Fw
    rw [if_pos rfl, if_pos rfl, d h]
  · obtain ⟨T, ok, a, b, c, d⟩ := one_ne en r (bi on) h1 (by omega) hr
    refine ⟨T, false, ok, 0, a, b, c, fun h => ⟨rfl, fun _ => rfl, fun l acc => ?_⟩⟩
    unfold Fw
    rw [if_neg e5, if_neg e5, encR, d h]
    simp only [Option.bind_some]
    rw [if_pos c]
theorem enc_loops (en : Int) (l : List Int) (h1 : 1 ≤ en) (h5 : en ≤ 5) (hok : ∀ x ∈ l, okRune x = true) (hl : l.length ≤ 1000) : ∀ (k i : Nat) (on : Bool) (acc : ByteArray), i ≤ l.length → l.length - i < k → acc.size ≤ 4 * i → (en ≠ 5 → on = false) →
    (∃ j, zh.l1 en l k acc (bi on) i = some (.ret (⟨#[]⟩, j, true)) ∧ z04.l1 en l k i = some (.ret (⟨#[]⟩, j, true))) ∨ (∃ acc' on', (en ≠ 5 → on' = false) ∧ zh.l1 en l k acc (bi on) i = some (.go (acc', bi on')) ∧ z04.l1 en l k i = some (.go ()) ∧ Fw en on (l.drop i) acc.data.toList = Fw en on' [] acc'.data.toList ∧ acc'.size ≤ 4 * l.length) := by
  intro k
  induction k with
  | zero => intro i on acc _ h; omega
  | succ k ih =>
    intro i on acc hi hk ha hon
    rw [zh.l1, z04.l1]
    by_cases h : i < l.length
    · have hm := hok _ (List.getElem_mem h)
      obtain ⟨T, on', ok, st, a, b, c, d⟩ := one_all en l[i] on h1 h5 hm hon
      rw [if_pos (by rw [decide_eq_true_eq]; omega), if_pos (by rw [decide_eq_true_eq]; omega), rd?_at h]
      simp only [Option.bind_some, a, b]
      cases ok with
      | false => exact .inl ⟨i, rfl, rfl⟩
      | true =>
        obtain ⟨rfl, d2, d3⟩ := d rfl
        simp only [Bool.not_true, Bool.false_eq_true, if_false]
        rw [cat_some (by omega)]
        simp only [Option.bind_some]
        rw [wrapN i (by omega)]
        rcases ih (i + 1) on' (acc ++ T) h (by omega) (by rw [ByteArray.size_append]; omega) d2 with ⟨j, p, q⟩ | ⟨acc', on2, p0, p, q, r, s⟩
        · exact .inl ⟨j, p, q⟩
        · refine .inr ⟨acc', on2, p0, p, q, ?_, s⟩
          rw [List.drop_eq_getElem_cons h, d3, ← r, ByteArray.data_append, Array.toList_append]
    · rw [if_neg (by rw [decide_eq_true_eq]; omega), if_neg (by rw [decide_eq_true_eq]; omega)]
      refine .inr ⟨acc, on, hon, rfl, rfl, ?_, by omega⟩
      rw [List.drop_of_length_le (by omega)]
theorem p_EncodeAll (en : Int) (l : List Int) (hl : l.length ≤ big) : ∃ z, zh.f en l = some z ∧ z04.f en l = some z := by
  unfold zh.f z04.f
  rw [(p_code en).1, (p_code en).2, p_allRunes l hl, p_areRunes l 1000 hl]
  simp only [Option.bind_some]
  by_cases he : 1 ≤ en ∧ en ≤ 5
  · have hc : (decide (1 ≤ en) && decide (en ≤ 5)) = true := by simpa using he
    rw [hc]
    simp only [Bool.not_true, Bool.false_eq_true, if_false, Option.bind_some]
    by_cases hr : l.all okRune = true ∧ l.length ≤ 1000
    · have ha : (l.all okRune && decide (l.length ≤ 1000)) = true := by simp only [hr.1, Bool.true_and, decide_eq_true_eq]; exact hr.2
      have hb : (decide ((l.length : Int) ≤ 1000) && l.all okRune) = true := by simp only [hr.1, Bool.and_true, decide_eq_true_eq]; omega
      rw [ha, hb]
      simp only [Bool.not_true, Bool.false_eq_true, if_false]
      have hok : ∀ x ∈ l, okRune x = true := List.all_eq_true.1 hr.1
      rcases enc_loops en l he.1 he.2 hok hr.2 (((l.length : Int) - 0).toNat + 2) 0 false ⟨#[]⟩ (Nat.zero_le _) (by omega) (Nat.le_refl _) (fun _ => rfl) with ⟨j, p, q⟩ | ⟨acc', on', p0, p, q, r, s⟩
      · rw [show bi false = 0 from rfl] at p
        rw [show ((0 : Nat) : Int) = 0 from rfl] at p q
        rw [p, q]
        exact ⟨_, rfl, rfl⟩
      · rw [show bi false = 0 from rfl] at p
        rw [show ((0 : Nat) : Int) = 0 from rfl] at p q
        rw [p, q]
        simp only [Option.bind_some]
        rw [List.drop_zero] at r
        have hx : ∀ x ∈ l, 0 ≤ x ∧ x ≤ 1114111 := fun x hx => ⟨(okRune_of (hok x hx)).1, (okRune_of (hok x hx)).2.1⟩
        obtain ⟨X, hX, hX2⟩ : ∃ X : ByteArray, z03.f en l = some X ∧ X = if on' = true then acc' ++ textB [15] else acc' := by
          unfold z03.f
          rw [if_pos ⟨hr.2, hx⟩]
          by_cases e5 : en = 5
          · subst e5
            rw [if_pos rfl]
            refine ⟨_, rfl, ?_⟩
            unfold Fw at r
            rw [if_pos rfl, if_pos rfl] at r
            have r := Option.some.inj r
            rw [show (⟨#[]⟩ : ByteArray).data.toList = [] from rfl] at r
            rw [r, shR]
            cases on' with
            | true =>
              rw [if_pos rfl]
              apply ByteArray.ext
              apply Array.ext'
              simp [tnR, text1]
            | false =>
              rw [if_neg (by decide)]
              apply ByteArray.ext
              simp [tnR]
          · have := p0 e5
            subst this
            rw [if_neg e5, if_neg (by decide)]
            unfold Fw at r
            rw [if_neg e5, if_neg e5] at r
            rw [show (⟨#[]⟩ : ByteArray).data.toList = [] from rfl] at r
            rw [r, encR]
            exact ⟨_, rfl, by apply ByteArray.ext; simp⟩
        rw [hX]
        simp only [Option.bind_some]
        cases on' with
        | true =>
          rw [if_pos rfl] at hX2
          rw [if_pos (by decide), cat_some (by rw [text_size]; simp; omega)]
          simp only [Option.bind_some]
          rw [hX2]
          split
          · exact ⟨_, rfl, rfl⟩
          · exact ⟨_, rfl, rfl⟩
        | false =>
          rw [if_neg (by decide)] at hX2
          rw [if_neg (by decide)]
          simp only [Option.bind_some]
          rw [hX2]
          split
          · exact ⟨_, rfl, rfl⟩
          · exact ⟨_, rfl, rfl⟩
    · have ha : (l.all okRune && decide (l.length ≤ 1000)) = false := by
        cases h : l.all okRune with
        | false => rfl
        | true => simp only [Bool.true_and, decide_eq_false_iff_not]; exact fun h' => hr ⟨h, h'⟩
      have hb : (decide ((l.length : Int) ≤ 1000) && l.all okRune) = false := by
        cases h : l.all okRune with
        | false => rw [Bool.and_false]
        | true => rw [Bool.and_true, decide_eq_false_iff_not]; exact fun h' => hr ⟨h, by omega⟩
      rw [ha, hb]
      exact ⟨_, rfl, rfl⟩
  · have hc : (decide (1 ≤ en) && decide (en ≤ 5)) = false := by
      cases h : decide (1 ≤ en) with
      | false => rfl
      | true => rw [Bool.true_and, decide_eq_false_iff_not]; exact fun h' => he ⟨of_decide_eq_true h, h'⟩
    rw [hc]
    exact ⟨_, rfl, rfl⟩
/-- How many bytes a rune has that begins with a byte, as Go's table tells it; the bounds of the second. -/
def u8n (a : Int) : Int := if 194 ≤ a ∧ a ≤ 223 then 2 else if 224 ≤ a ∧ a ≤ 239 then 3 else if 240 ≤ a ∧ a ≤ 244 then 4 else if a < 128 then 0 else 1
def u8lo (a : Int) : Int := if a = 224 then 160 else if a = 240 then 144 else 128
def u8hi (a : Int) : Int := if a = 237 then 159 else if a = 244 then 143 else 191
def cont (a : Int) : Prop := 128 ≤ a ∧ a ≤ 191
def sndOk (a b : Int) : Prop := u8lo a ≤ b ∧ b ≤ u8hi a
instance (a : Int) : Decidable (cont a) := by unfold cont; infer_instance
instance (a b : Int) : Decidable (sndOk a b) := by unfold sndOk; infer_instance
def tabChk (a : Nat) : Bool := match rd? u8First (a : Int) with
  | some v => decide (IntKind.i64.wrap (bits .and .u8 v 7) = u8n a) && (decide (u8n a < 2) || (match shrK? .u8 v 4 with
    | some k => decide (rd? u8Accept k = some (u8lo a, u8hi a))
    | none => false))
  | none => false
theorem tabAll : ∀ a : Nat, a < 256 → tabChk a = true := by decide +kernel
theorem tab_of {a : Int} (h0 : 0 ≤ a) (h1 : a < 256) : ∃ v, rd? u8First a = some v ∧ IntKind.i64.wrap (bits .and .u8 v 7) = u8n a ∧ (2 ≤ u8n a → ∃ k, shrK? .u8 v 4 = some k ∧ rd? u8Accept k = some (u8lo a, u8hi a)) := by
  obtain ⟨n, rfl⟩ := Int.eq_ofNat_of_zero_le h0
  have := tabAll n (by omega)
  unfold tabChk at this
  cases hv : rd? u8First (n : Int) with
  | none => rw [hv] at this; cases this
  | some v =>
    rw [hv] at this
    simp only [Bool.and_eq_true, Bool.or_eq_true, decide_eq_true_eq] at this
    refine ⟨v, rfl, this.1, fun h2 => ?_⟩
    rcases this.2 with h | h
    · omega
    · cases hk : shrK? .u8 v 4 with
      | none => rw [hk] at h; cases h
      | some k =>
        rw [hk] at h
        exact ⟨k, rfl, by simpa using h⟩
/-- A rune that has begun, and has not ended. -/
def begB : List Int → Bool
  | [a] => decide (2 ≤ u8n a)
  | [a, b] => decide (3 ≤ u8n a) && decide (sndOk a b)
  | [a, b, c] => decide (4 ≤ u8n a) && (decide (sndOk a b) && decide (cont c))
  | _ => false
theorem u8n_le (a : Int) : u8n a ≤ 4 := by unfold u8n; repeat' split <;> omega
/-- The rune at the front, and how many bytes it has. -/
def dec (M : List Int) : Int × Int :=
  let a := M.getD 0 0; let b := M.getD 1 0; let c := M.getD 2 0; let d := M.getD 3 0
  if a < 128 then (a, 1)
  else if u8n a = 2 ∧ sndOk a b then ((a - 192) * 64 + (b - 128), 2)
  else if u8n a = 3 ∧ sndOk a b ∧ cont c then ((a - 224) * 4096 + (b - 128) * 64 + (c - 128), 3)
  else if u8n a = 4 ∧ sndOk a b ∧ cont c ∧ cont d then ((a - 240) * 262144 + (b - 128) * 4096 + (c - 128) * 64 + (d - 128), 4)
  else (65533, 1)
def l1L (a : Int) : Int := if a < 128 then 1 else if a < 192 then 0 else if a < 224 then 2 else if a < 240 then 3 else if a < 248 then 4 else 0
theorem p_l1Long (a : Int) : z8.f a = some (l1L a) := by
  unfold z8.f l1L
  repeat' split
  all_goals first | rfl | (simp at *; omega)
theorem u8s_eq {a b c d x : Int} : (u8s x = [a, b] → x < 128 ∨ 128 ≤ x) := fun _ => by omega
theorem l1At_fin (S : ByteArray) (p m : Nat) (x : Int) (hm : p + m ≤ S.size) (hm2 : 2 ≤ m) (hx0 : 0 ≤ x) (hx1 : x ≤ 2097151) (hS : S.size ≤ 4000000000) :
    (((z9.f x).bind fun u108 => if (!u108) = true then (some true) else ((cutS? S p ((p : Int) + (m : Int))).bind fun u110 => (za.f x).bind fun u111 => some (!(u111.toList == u110.toList)))).bind fun (o : Bool) => (if o = true then (some ((65533 : Int), (1 : Int))) else (some (x, (m : Int))))) = some (if okRune x = true ∧ u8s x = ((y3 S).drop p).take m then (x, (m : Int)) else (65533, 1)) := by
  rw [p_specRune]
  simp only [Option.bind_some]
  cases hg : okRune x with
  | false => simp
  | true =>
    have hx2 : x ≤ 1114111 := by
      simp only [okRune, Bool.and_eq_true, decide_eq_true_eq] at hg
      omega
    simp only [Bool.not_true, Bool.false_eq_true, if_false]
    rw [show (p : Int) + (m : Int) = ((p + m : Nat) : Int) by omega]
    obtain ⟨T, t1, t2⟩ := cutS_at S (a := p) (b := p + m) (by omega) hm
    rw [t1]
    simp only [Option.bind_some]
    rw [p_l1Utf8 x hx0 hx2]
    simp only [Option.bind_some]
    rw [strB, t2, bytes_text _ (u8s_in hx0 hx2)]
    have e : List.drop p (List.take (p + m) (y3 S)) = ((y3 S).drop p).take m := by
      rw [List.drop_take]
      congr 1
      omega
    rw [e]
    by_cases h : u8s x = ((y3 S).drop p).take m
    · simp [h]
    · simp [h]
theorem l1At_step (S : ByteArray) (p m : Nat) (hS : S.size ≤ 4000000000) (j : Nat) (hj : j < m) (hm4 : m ≤ 4) (hpm : p + m ≤ S.size) (b : Int) (hb : ((y3 S).drop p)[j]? = some b) (x : Int) (hx0 : 0 ≤ x) (hx1 : x ≤ 40000) (k : Nat) : zb.l1 S p m (k + 1) x j = zb.l1 S p m k (x * 64 + b % 64) ((j + 1 : Nat) : Int) := by
  have hbr := bytes_rng S b (List.mem_of_mem_drop (List.mem_of_getElem? hb))
  rw [zb.l1, if_pos (by rw [decide_eq_true_eq]; omega), wrapS (n := (p : Int) + j) (by omega) (by omega), show (p : Int) + (j : Int) = ((p + j : Nat) : Int) by omega, rdS_at]
  rw [List.getElem?_drop] at hb
  rw [hb]
  simp only [Option.bind_some]
  rw [wrapS (n := b) (by omega) (by omega), rem_pos (by omega) (by omega)]
  simp only [Option.bind_some]
  rw [wrapS (n := x * 64) (by omega) (by omega), wrapS (n := x * 64 + b % 64) (by omega) (by omega), wrapN j (by omega)]
theorem l1At_end (S : ByteArray) (p m : Nat) (x : Int) (k : Nat) : zb.l1 S p m (k + 1) x m = some x := by
  rw [zb.l1, if_neg (by simp)]
theorem p_l1At (S : ByteArray) (p : Nat) (hp : p < S.size) (hS : S.size ≤ 4000000000) : zb.f S p = some (dec ((y3 S).drop p)) := by
  unfold zb.f
  have hL := size_bytes S
  have hr := bytes_rng S
  have hpl : p < (y3 S).length := by omega
  have ha := List.drop_eq_getElem_cons hpl
  generalize hav : (y3 S)[p] = a at ha
  have har : 0 ≤ a ∧ a < 256 := by rw [← hav]; exact hr _ (List.getElem_mem hpl)
  have h0 : rdS? S (p : Int) = some a := by rw [rdS_at, List.getElem?_eq_getElem hpl, hav]
  simp only [h0, Option.bind_some, p_l1Long]
  generalize hM : (y3 S).drop (p + 1) = R at ha
  have hlen : R.length = S.size - (p + 1) := by rw [← hM, List.length_drop, ← hL]
  have hRr : ∀ u ∈ R, 0 ≤ u ∧ u < 256 := fun u hu => hr u (List.mem_of_mem_drop (by rw [hM]; exact hu))
  rw [wrapS (n := (p : Int) + l1L a) (by unfold l1L; repeat' split <;> omega) (by unfold l1L; repeat' split <;> omega)]
  by_cases c1 : a < 128
  · -- one byte
    have e1 : l1L a = 1 := by unfold l1L; rw [if_pos c1]
    rw [e1, ha]
    have d1 : decide ((p : Int) + 1 > (S.size : Int)) = false := by rw [decide_eq_false_iff_not]; omega
    have e2 : dec (a :: R) = (a, 1) := by unfold dec; simp [c1]
    rw [e2]
    have g := p_specRune a
    have hg : okRune a = true := by simp only [okRune, Bool.and_eq_true, decide_eq_true_eq, Bool.not_eq_true', Bool.and_eq_false_iff, decide_eq_false_iff_not]; omega
    obtain ⟨T, t1, t2⟩ := cutS_at S (a := p) (b := p + 1) (by omega) (by omega)
    rw [show ((p + 1 : Nat) : Int) = (p : Int) + 1 by omega] at t1
    have t3 : y3 T = [a] := by
      rw [t2, List.drop_take, ha]
      simp
    have u1 : u8s a = [a] := by unfold u8s; rw [if_pos c1]
    simp [d1, zb.l1, g, hg, t1, p_l1Utf8 a (by omega) (by omega), strB, t3, u1, bytes_text [a] (by simp; omega), wrapS (n := a) (by omega) (by omega)]
  by_cases c0 : l1L a = 0
  · rw [c0, ha]
    have e2 : dec (a :: R) = (65533, 1) := by
      have : u8n a = 1 := by unfold l1L at c0; unfold u8n; repeat' split at c0 <;> first | omega | (repeat' split <;> omega)
      unfold dec
      simp [c1, this]
    rw [e2]
    simp
  -- more bytes
  obtain ⟨m, hm⟩ : ∃ m : Nat, l1L a = m := ⟨(l1L a).toNat, by unfold l1L at *; repeat' split <;> omega⟩
  have hm2 : 2 ≤ m ∧ m ≤ 4 := by unfold l1L at *; repeat' split at hm <;> omega
  have hne : ((l1L a) == 0) = false := by simpa using c0
  simp only [hne, Bool.false_eq_true, if_false, Option.bind_some]
  rw [hm]
  by_cases hpm : p + m ≤ S.size
  case neg =>
    have d1 : decide ((p : Int) + m > (S.size : Int)) = true := by rw [decide_eq_true_eq]; omega
    simp only [d1, if_true]
    rw [ha]
    congr 1
    symm
    unfold dec
    have hl1 : R.length < m - 1 := by omega
    have g0 : (a :: R).getD 0 0 = a := rfl
    have g1 : (a :: R).getD 1 0 = R.getD 0 0 := rfl
    have g2 : (a :: R).getD 2 0 = R.getD 1 0 := rfl
    have g3 : (a :: R).getD 3 0 = R.getD 2 0 := rfl
    simp only [g0, g1, g2, g3, c1, if_false]
    have z : ∀ i, R.length ≤ i → R.getD i 0 = 0 := fun i hi => by simp [List.getD, List.getElem?_eq_none hi]
    have s0 : ∀ b, b = 0 → ¬ sndOk a b := fun b hb h => by unfold sndOk u8lo at h; repeat' split at h <;> omega
    have s1 : ∀ b, b = 0 → ¬ cont b := fun b hb h => by unfold cont at h; omega
    have hl1L : l1L a = m := hm
    rcases (show m = 2 ∨ m = 3 ∨ m = 4 by omega) with rfl | rfl | rfl
    · have := s0 _ (z 0 (by omega))
      simp only [this, and_false, false_and, if_false]
    · have := s1 _ (z 1 (by omega))
      have h2 : u8n a ≠ 2 := by unfold l1L at hl1L; unfold u8n; repeat' split at hl1L <;> first | omega | (repeat' split <;> omega)
      simp only [this, h2, and_false, false_and, if_false]
    · have := s1 _ (z 2 (by omega))
      have h2 : u8n a ≠ 2 ∧ u8n a ≠ 3 := by unfold l1L at hl1L; unfold u8n; repeat' split at hl1L <;> first | omega | (repeat' split <;> omega)
      simp only [this, h2.1, h2.2, and_false, false_and, if_false]
  have d1 : decide ((p : Int) + m > (S.size : Int)) = false := by rw [decide_eq_false_iff_not]; omega
  have d2 : decide ((m : Int) > 1) = true := by rw [decide_eq_true_eq]; omega
  simp only [d1, d2, Bool.false_eq_true, if_false, if_true]
  rw [wrapS (n := a) (by omega) (by omega)]
  have hsh : ∃ q, shlK? .i64 1 (IntKind.u64.wrap (IntKind.i64.wrap (7 - (m : Int)))) = some q ∧ q = 2 ^ (7 - m) := by
    rcases (show m = 2 ∨ m = 3 ∨ m = 4 by omega) with rfl | rfl | rfl 
    · exact ⟨32, by decide +kernel, by decide⟩
    · exact ⟨16, by decide +kernel, by decide⟩
    · exact ⟨8, by decide +kernel, by decide⟩
  obtain ⟨q, q1, q2⟩ := hsh
  rw [q1]
  simp only [Option.bind_some]
  have hq : 1 ≤ q := by rcases (show m = 2 ∨ m = 3 ∨ m = 4 by omega) with rfl | rfl | rfl <;> rw [q2] <;> decide
  rw [rem_pos (by omega) hq]
  simp only [Option.bind_some]
  have hMl : (a :: R).length = S.size - p := by simp; omega
  rcases (show m = 2 ∨ m = 3 ∨ m = 4 by omega) with rfl | rfl | rfl
  · have q3 : q = 32 := by rw [q2]; decide
    subst q3
    match hR : R, hlen with
    | [], hl => simp at hl; omega
    | b :: R', hl =>
      have hb := hRr b (by simp)
      have la : 192 ≤ a ∧ a < 224 := by unfold l1L at hm; repeat' split at hm <;> omega
      have st := l1At_step S p 2 hS 1 (by omega) (by omega) hpm b (by rw [ha]; rfl) (a % 32) (by omega) (by omega) 2
      rw [show (((2 : Nat) : Int) - 1).toNat + 2 = 3 from rfl]
      rw [show ((1 : Nat) : Int) = 1 from rfl] at st
      rw [st]
      rw [show ((1 + 1 : Nat) : Int) = ((2 : Nat) : Int) from rfl, l1At_end]
      simp only [Option.bind_some]
      have fin := l1At_fin S p 2 (a % 32 * 64 + b % 64) hpm (by omega) (by omega) (by omega) hS
      rw [fin, ha]
      congr 1
      have hu : (okRune (a % 32 * 64 + b % 64) = true ∧ u8s (a % 32 * 64 + b % 64) = [a, b]) ↔ (194 ≤ a ∧ cont b) := by
        unfold cont okRune u8s
        simp only [Bool.and_eq_true, decide_eq_true_eq, Bool.not_eq_true', Bool.and_eq_false_iff, decide_eq_false_iff_not]
        constructor
        · rintro ⟨_, h⟩
          split at h
          · simp at h
          · split at h
            · simp only [List.cons.injEq, and_true] at h; omega
            · split at h <;> simp at h
        · rintro ⟨h1, h2⟩
          refine ⟨by omega, ?_⟩
          rw [if_neg (by omega), if_pos (by omega)]
          simp only [List.cons.injEq, and_true]
          omega
      have e3 : List.take 2 (a :: b :: R') = [a, b] := rfl
      rw [e3]
      unfold dec
      have g0 : (a :: b :: R').getD 0 0 = a := rfl
      have g1 : (a :: b :: R').getD 1 0 = b := rfl
      simp only [g0, g1, c1, if_false]
      have hs : (u8n a = 2 ∧ sndOk a b) ↔ (194 ≤ a ∧ cont b) := by
        have : u8lo a = 128 ∧ u8hi a = 191 := by unfold u8lo u8hi; constructor <;> repeat' split <;> omega
        unfold sndOk cont
        rw [this.1, this.2]
        unfold u8n
        constructor
        · rintro ⟨h, h2⟩
          repeat' split at h <;> first | omega | exact ⟨by omega, h2⟩
        · rintro ⟨h, h2⟩
          rw [if_pos (by omega)]
          exact ⟨rfl, h2⟩
      by_cases h : 194 ≤ a ∧ cont b
      · rw [if_pos (hu.2 h), if_pos (hs.2 h)]
        unfold cont at h
        congr 1
        omega
      · rw [if_neg (fun h' => h (hu.1 h')), if_neg (fun h' => h (hs.1 h'))]
        have n3 : u8n a ≠ 3 ∧ u8n a ≠ 4 := by unfold u8n; repeat' split <;> omega
        simp [n3]
  · have q3 : q = 16 := by rw [q2]; decide
    subst q3
    match hR : R, hlen with
    | [], hl => simp at hl; omega
    | [b], hl => simp at hl; omega
    | b :: c :: R', hl =>
      have hb := hRr b (by simp)
      have hc := hRr c (by simp)
      have la : 224 ≤ a ∧ a < 240 := by unfold l1L at hm; repeat' split at hm <;> omega
      have st := l1At_step S p 3 hS 1 (by omega) (by omega) hpm b (by rw [ha]; rfl) (a % 16) (by omega) (by omega) 3
      have st2 := l1At_step S p 3 hS 2 (by omega) (by omega) hpm c (by rw [ha]; rfl) (a % 16 * 64 + b % 64) (by omega) (by omega) 2
      rw [show (((3 : Nat) : Int) - 1).toNat + 2 = 4 from rfl]
      rw [show ((1 : Nat) : Int) = 1 from rfl] at st
      rw [st, show ((1 + 1 : Nat) : Int) = ((2 : Nat) : Int) from rfl, st2, show ((2 + 1 : Nat) : Int) = ((3 : Nat) : Int) from rfl, l1At_end]
      simp only [Option.bind_some]
      have fin := l1At_fin S p 3 ((a % 16 * 64 + b % 64) * 64 + c % 64) hpm (by omega) (by omega) (by omega) hS
      rw [fin, ha]
      congr 1
      have hu : (okRune ((a % 16 * 64 + b % 64) * 64 + c % 64) = true ∧ u8s ((a % 16 * 64 + b % 64) * 64 + c % 64) = [a, b, c]) ↔ (sndOk a b ∧ cont c) := by
        unfold sndOk u8lo u8hi cont okRune u8s
        simp only [Bool.and_eq_true, decide_eq_true_eq, Bool.not_eq_true', Bool.and_eq_false_iff, decide_eq_false_iff_not]
        constructor
        · rintro ⟨_, h⟩
          split at h
          · simp at h
          · split at h
            · simp at h
            · split at h
              · simp only [List.cons.injEq, and_true] at h; repeat' split <;> omega
              · simp at h
        · rintro ⟨h1, h2⟩
          have h3 : (a = 224 → 160 ≤ b) ∧ (a = 237 → b ≤ 159) ∧ 128 ≤ b ∧ b ≤ 191 := by
            repeat' split at h1 <;> omega
          refine ⟨by omega, ?_⟩
          rw [if_neg (by omega), if_neg (by omega), if_pos (by omega)]
          simp only [List.cons.injEq, and_true]
          omega
      have e3 : List.take 3 (a :: b :: c :: R') = [a, b, c] := rfl
      rw [e3]
      unfold dec
      have g0 : (a :: b :: c :: R').getD 0 0 = a := rfl
      have g1 : (a :: b :: c :: R').getD 1 0 = b := rfl
      have g2 : (a :: b :: c :: R').getD 2 0 = c := rfl
      have n3 : u8n a = 3 := by unfold u8n; rw [if_neg (by omega), if_pos (by omega)]
      simp only [g0, g1, g2, c1, if_false, n3]
      by_cases h : sndOk a b ∧ cont c
      · rw [if_pos (hu.2 h)]
        have h2 := h
        unfold sndOk u8lo u8hi cont at h2
        simp only [h.1, h.2, and_true, true_and, if_true, show ¬ ((3 : Int) = 2) by decide, false_and, if_false]
        congr 1
        have h3 : 128 ≤ b ∧ b ≤ 191 := by obtain ⟨h1, _⟩ := h2; repeat' split at h1 <;> omega
        omega
      · rw [if_neg (fun h' => h (hu.1 h'))]
        simp [h]
  · have q3 : q = 8 := by rw [q2]; decide
    subst q3
    match hR : R, hlen with
    | [], hl => simp at hl; omega
    | [b], hl => simp at hl; omega
    | [b, c], hl => simp at hl; omega
    | b :: c :: d :: R', hl =>
      have hb := hRr b (by simp)
      have hc := hRr c (by simp)
      have hd := hRr d (by simp)
      have la : 240 ≤ a ∧ a < 248 := by unfold l1L at hm; repeat' split at hm <;> omega
      have st := l1At_step S p 4 hS 1 (by omega) (by omega) hpm b (by rw [ha]; rfl) (a % 8) (by omega) (by omega) 4
      have st2 := l1At_step S p 4 hS 2 (by omega) (by omega) hpm c (by rw [ha]; rfl) (a % 8 * 64 + b % 64) (by omega) (by omega) 3
      have st3 := l1At_step S p 4 hS 3 (by omega) (by omega) hpm d (by rw [ha]; rfl) ((a % 8 * 64 + b % 64) * 64 + c % 64) (by omega) (by omega) 2
      rw [show (((4 : Nat) : Int) - 1).toNat + 2 = 5 from rfl]
      rw [show ((1 : Nat) : Int) = 1 from rfl] at st
      rw [st, show ((1 + 1 : Nat) : Int) = ((2 : Nat) : Int) from rfl, st2, show ((2 + 1 : Nat) : Int) = ((3 : Nat) : Int) from rfl, st3, show ((3 + 1 : Nat) : Int) = ((4 : Nat) : Int) from rfl, l1At_end]
      simp only [Option.bind_some]
      have fin := l1At_fin S p 4 (((a % 8 * 64 + b % 64) * 64 + c % 64) * 64 + d % 64) hpm (by omega) (by omega) (by omega) hS
      rw [fin, ha]
      congr 1
      have hu : (okRune (((a % 8 * 64 + b % 64) * 64 + c % 64) * 64 + d % 64) = true ∧ u8s (((a % 8 * 64 + b % 64) * 64 + c % 64) * 64 + d % 64) = [a, b, c, d]) ↔ (a ≤ 244 ∧ sndOk a b ∧ cont c ∧ cont d) := by
        unfold sndOk u8lo u8hi cont okRune u8s
        simp only [Bool.and_eq_true, decide_eq_true_eq, Bool.not_eq_true', Bool.and_eq_false_iff, decide_eq_false_iff_not]
        constructor
        · rintro ⟨_, h⟩
          split at h
          · simp at h
          · split at h
            · simp at h
            · split at h
              · simp at h
              · simp only [List.cons.injEq, and_true] at h; repeat' split <;> omega
        · rintro ⟨h0, h1, h2, h4⟩
          have h3 : (a = 240 → 144 ≤ b) ∧ (a = 244 → b ≤ 143) ∧ 128 ≤ b ∧ b ≤ 191 := by
            repeat' split at h1 <;> omega
          refine ⟨by omega, ?_⟩
          rw [if_neg (by omega), if_neg (by omega), if_neg (by omega)]
          simp only [List.cons.injEq, and_true]
          omega
      have e3 : List.take 4 (a :: b :: c :: d :: R') = [a, b, c, d] := rfl
      rw [e3]
      unfold dec
      have g0 : (a :: b :: c :: d :: R').getD 0 0 = a := rfl
      have g1 : (a :: b :: c :: d :: R').getD 1 0 = b := rfl
      have g2 : (a :: b :: c :: d :: R').getD 2 0 = c := rfl
      have g3 : (a :: b :: c :: d :: R').getD 3 0 = d := rfl
      have n3 : (u8n a = 4 ↔ a ≤ 244) ∧ u8n a ≠ 2 ∧ u8n a ≠ 3 := by unfold u8n; rw [if_neg (by omega), if_neg (by omega)]; split <;> omega
      simp only [g0, g1, g2, g3, c1, if_false, n3.1, n3.2.1, n3.2.2, false_and]
      by_cases h : a ≤ 244 ∧ sndOk a b ∧ cont c ∧ cont d
      · rw [if_pos (hu.2 h), if_pos h]
        have h2 := h
        unfold sndOk u8lo u8hi cont at h2
        congr 1
        have h3 : 128 ≤ b ∧ b ≤ 191 := by obtain ⟨_, h1, _⟩ := h2; repeat' split at h1 <;> omega
        omega
      · rw [if_neg (fun h' => h (hu.1 h')), if_neg h]
/-- The model's own decoder is 'dec'. -/
def decN (n0 n1 n2 n3 : Nat) (e1 e2 e3 : Bool) : Nat × Nat :=
  if n0 < 0x80 then (n0, 1)
  else if n0 / 32 == 6 && (e1 && n1 / 64 == 2) then
    if (n0 % 32) * 64 + n1 % 64 ≥ 0x80 then ((n0 % 32) * 64 + n1 % 64, 2) else (65533, 1)
  else if n0 / 16 == 14 && (e1 && n1 / 64 == 2) && (e2 && n2 / 64 == 2) then
    if (n0 % 16) * 4096 + (n1 % 64) * 64 + n2 % 64 ≥ 0x800 && Utf8.valid (((n0 % 16) * 4096 + (n1 % 64) * 64 + n2 % 64 : Nat) : Int) then ((n0 % 16) * 4096 + (n1 % 64) * 64 + n2 % 64, 3) else (65533, 1)
  else if n0 / 8 == 30 && (e1 && n1 / 64 == 2) && (e2 && n2 / 64 == 2) && (e3 && n3 / 64 == 2) then
    if (n0 % 8) * 262144 + (n1 % 64) * 4096 + (n2 % 64) * 64 + n3 % 64 ≥ 0x10000 && Utf8.valid (((n0 % 8) * 262144 + (n1 % 64) * 4096 + (n2 % 64) * 64 + n3 % 64 : Nat) : Int) then ((n0 % 8) * 262144 + (n1 % 64) * 4096 + (n2 % 64) * 64 + n3 % 64, 4) else (65533, 1)
  else (65533, 1)
theorem decN_model (S : ByteArray) (p : Nat) : Utf8.decode S p = decN (S.get! (p + 0)).toNat (S.get! (p + 1)).toNat (S.get! (p + 2)).toNat (S.get! (p + 3)).toNat (decide (p + 1 < S.size)) (decide (p + 2 < S.size)) (decide (p + 3 < S.size)) := rfl
def g01 (e : Bool) (n : Nat) : Int := if e then (n : Int) else 0
theorem contN {e : Bool} {n : Nat} (hn : n < 256) : (e && n / 64 == 2) = decide (cont (g01 e n)) := by
  unfold cont g01
  cases e with
  | false => simp
  | true =>
    rw [Bool.eq_iff_iff]
    simp
    omega
theorem decN_dec (n0 n1 n2 n3 : Nat) (e1 e2 e3 : Bool) (h0 : n0 < 256) (h1 : n1 < 256) (h2 : n2 < 256) (h3 : n3 < 256) (r : List Int) :
    (((decN n0 n1 n2 n3 e1 e2 e3).1 : Int), ((decN n0 n1 n2 n3 e1 e2 e3).2 : Int)) = dec [(n0 : Int), g01 e1 n1, g01 e2 n2, g01 e3 n3] := by
  unfold decN dec
  simp only [List.getD_cons_zero, List.getD_cons_succ, contN h1, contN h2, contN h3]
  have gc : ∀ {e : Bool} {n : Nat}, cont (g01 e n) → g01 e n = n ∧ 128 ≤ n ∧ n ≤ 191 := by
    intro e n h
    unfold cont g01 at *
    cases e <;> simp at h ⊢
    omega
  by_cases c0 : n0 < 128
  · have : (n0 : Int) < 128 := by omega
    simp [c0, this]
  have c0' : ¬ (n0 : Int) < 128 := by omega
  rw [if_neg c0, if_neg c0']
  have sn : ∀ b : Int, sndOk (n0 : Int) b → cont b := by
    intro b h
    unfold sndOk u8lo u8hi at h
    unfold cont
    repeat' split at h
    all_goals omega
  by_cases k1 : cont (g01 e1 n1)
  case neg =>
    have s1 : ¬ sndOk (n0 : Int) (g01 e1 n1) := fun h => k1 (sn _ h)
    simp [k1, s1]
  obtain ⟨q1, a1, b1⟩ := gc k1
  rw [q1]
  have k1' : cont (n1 : Int) := by rw [← q1]; exact k1
  simp only [k1', decide_true, Bool.and_true]
  by_cases d2 : n0 / 32 = 6
  · have hs : sndOk (n0 : Int) (n1 : Int) := by
      unfold sndOk u8lo u8hi
      rw [if_neg (by omega), if_neg (by omega), if_neg (by omega), if_neg (by omega)]
      omega
    rw [if_pos (by simpa using d2)]
    by_cases d : n0 < 194
    · have u : ¬ u8n (n0 : Int) = 2 := by unfold u8n; repeat' split <;> omega
      have u3 : ¬ u8n (n0 : Int) = 3 := by unfold u8n; repeat' split <;> omega
      have u4 : ¬ u8n (n0 : Int) = 4 := by unfold u8n; repeat' split <;> omega
      rw [if_neg (by omega)]
      simp [u, u3, u4]
    · have u : u8n (n0 : Int) = 2 := by unfold u8n; rw [if_pos (by omega)]
      rw [if_pos (by omega), if_pos ⟨u, hs⟩]
      simp
      omega
  have u2 : ¬ u8n (n0 : Int) = 2 := by unfold u8n; repeat' split <;> omega
  have f2 : ¬ (u8n (n0 : Int) = 2 ∧ sndOk (n0 : Int) (n1 : Int)) := fun h => u2 h.1
  rw [if_neg (by simpa using d2), if_neg f2]
  by_cases k2 : cont (g01 e2 n2)
  case neg => simp [k2]
  obtain ⟨q2, a2, b2⟩ := gc k2
  rw [q2]
  have k2' : cont (n2 : Int) := by rw [← q2]; exact k2
  simp only [k2', decide_true, Bool.and_true, and_true]
  by_cases d3 : n0 / 16 = 14
  · have u : u8n (n0 : Int) = 3 := by unfold u8n; rw [if_neg (by omega), if_pos (by omega)]
    have u4 : ¬ u8n (n0 : Int) = 4 := by omega
    have d3' : (n0 / 16 == 14) = true := by simpa using d3
    rw [if_pos d3']
    by_cases hs : sndOk (n0 : Int) (n1 : Int)
    · have f3 : u8n (n0 : Int) = 3 ∧ sndOk (n0 : Int) (n1 : Int) := ⟨u, hs⟩
      rw [if_pos f3]
      have hv : ((n0 % 16) * 4096 + (n1 % 64) * 64 + n2 % 64 ≥ 0x800 && Utf8.valid (((n0 % 16) * 4096 + (n1 % 64) * 64 + n2 % 64 : Nat) : Int)) = true := by
        unfold sndOk u8lo u8hi at hs
        unfold Utf8.valid
        simp only [Bool.and_eq_true, Bool.or_eq_true, decide_eq_true_eq]
        repeat' split at hs
        all_goals omega
      rw [if_pos hv]
      simp
      omega
    · have f3 : ¬ (u8n (n0 : Int) = 3 ∧ sndOk (n0 : Int) (n1 : Int)) := fun h => hs h.2
      rw [if_neg f3]
      have hv : ((n0 % 16) * 4096 + (n1 % 64) * 64 + n2 % 64 ≥ 0x800 && Utf8.valid (((n0 % 16) * 4096 + (n1 % 64) * 64 + n2 % 64 : Nat) : Int)) = false := by
        rw [← Bool.not_eq_true]
        intro hv
        apply hs
        unfold Utf8.valid at hv
        simp only [Bool.and_eq_true, Bool.or_eq_true, decide_eq_true_eq] at hv
        unfold sndOk u8lo u8hi
        repeat' split
        all_goals omega
      rw [hv]
      simp [u4]
  have u3 : ¬ u8n (n0 : Int) = 3 := by unfold u8n; repeat' split <;> omega
  have f3 : ¬ (u8n (n0 : Int) = 3 ∧ sndOk (n0 : Int) (n1 : Int)) := fun h => u3 h.1
  have d3' : ¬ (n0 / 16 == 14) = true := by simpa using d3
  rw [if_neg d3', if_neg f3]
  by_cases k3 : cont (g01 e3 n3)
  case neg => simp [k3]
  obtain ⟨q3, a3, b3⟩ := gc k3
  rw [q3]
  have k3' : cont (n3 : Int) := by rw [← q3]; exact k3
  simp only [k3', decide_true, Bool.and_true, and_true]
  by_cases d4 : n0 / 8 = 30
  · have d4' : (n0 / 8 == 30) = true := by simpa using d4
    rw [if_pos d4']
    by_cases hs : u8n (n0 : Int) = 4 ∧ sndOk (n0 : Int) (n1 : Int)
    · rw [if_pos hs]
      have hv : ((n0 % 8) * 262144 + (n1 % 64) * 4096 + (n2 % 64) * 64 + n3 % 64 ≥ 0x10000 && Utf8.valid (((n0 % 8) * 262144 + (n1 % 64) * 4096 + (n2 % 64) * 64 + n3 % 64 : Nat) : Int)) = true := by
        obtain ⟨hu, hs⟩ := hs
        have : n0 ≤ 244 := by unfold u8n at hu; repeat' split at hu <;> omega
        unfold sndOk u8lo u8hi at hs
        unfold Utf8.valid
        simp only [Bool.and_eq_true, Bool.or_eq_true, decide_eq_true_eq]
        repeat' split at hs
        all_goals omega
      rw [if_pos hv]
      simp
      omega
    · rw [if_neg hs]
      have hv : ((n0 % 8) * 262144 + (n1 % 64) * 4096 + (n2 % 64) * 64 + n3 % 64 ≥ 0x10000 && Utf8.valid (((n0 % 8) * 262144 + (n1 % 64) * 4096 + (n2 % 64) * 64 + n3 % 64 : Nat) : Int)) = false := by
        rw [← Bool.not_eq_true]
        intro hv
        apply hs
        unfold Utf8.valid at hv
        simp only [Bool.and_eq_true, Bool.or_eq_true, decide_eq_true_eq] at hv
        have hn : n0 ≤ 244 := by omega
        refine ⟨by unfold u8n; repeat' split <;> omega, ?_⟩
        unfold sndOk u8lo u8hi
        repeat' split
        all_goals omega
      rw [hv]
      rfl
  have u4 : ¬ (u8n (n0 : Int) = 4 ∧ sndOk (n0 : Int) (n1 : Int)) := by
    intro h
    have := h.1
    unfold u8n at this
    repeat' split at this
    all_goals omega
  have d4' : ¬ (n0 / 8 == 30) = true := by simpa using d4
  rw [if_neg d4', if_neg u4]
  rfl
theorem decode_dec (S : ByteArray) (p : Nat) (hp : p < S.size) : (((Utf8.decode S p).1 : Int), ((Utf8.decode S p).2 : Int)) = dec ((y3 S).drop p) := by
  rw [decN_model, decN_dec _ _ _ _ _ _ _ (UInt8.toNat_lt _) (UInt8.toNat_lt _) (UInt8.toNat_lt _) (UInt8.toNat_lt _) []]
  have hz := size_bytes S
  have gd : ∀ k, ((y3 S).drop p).getD k 0 = g01 (decide (p + k < S.size)) (S.get! (p + k)).toNat := by
    intro k
    unfold g01
    by_cases h : p + k < S.size
    · rw [if_pos (by simpa using h), List.getD_eq_getElem?_getD, List.getElem?_drop]
      unfold y3
      rw [List.getElem?_map, Array.getElem?_toList]
      have : S.data[p + k]? = some (S.get! (p + k)) := by
        have hd : p + k < S.data.size := h
        rw [Array.getElem?_eq_getElem hd]
        congr 1
        obtain ⟨x⟩ := S
        show x[p + k] = x[p + k]!
        rw [getElem!_pos x (p + k) hd]
      rw [this]
      rfl
    · rw [if_neg (by simpa using h), List.getD_eq_getElem?_getD, List.getElem?_eq_none (by rw [List.length_drop]; omega)]
      rfl
  have g0 := gd 0
  have g1 := gd 1
  have g2 := gd 2
  have g3 := gd 3
  unfold dec
  simp only [List.getD_cons_zero, List.getD_cons_succ]
  rw [g0, g1, g2, g3]
  have : g01 (decide (p + 0 < S.size)) (S.get! (p + 0)).toNat = ((S.get! (p + 0)).toNat : Int) := by unfold g01; rw [if_pos (by simpa using hp)]
  rw [this]
/-- The runes of some bytes. -/
def runesL : Nat → List Int → List Int
  | 0, _ => []
  | n + 1, L => if L = [] then [] else (dec L).1 :: runesL n (L.drop (dec L).2.toNat)
theorem dec_len (L : List Int) (hne : L ≠ []) : 1 ≤ (dec L).2 ∧ (dec L).2 ≤ L.length := by
  have gl : ∀ k, ¬ k < L.length → L.getD k 0 = 0 := fun k h => by rw [List.getD_eq_getElem?_getD, List.getElem?_eq_none (by omega)]; rfl
  have hp := List.length_pos_iff.2 hne
  have sn : ∀ a b : Int, sndOk a b → 128 ≤ b := by
    intro a b h
    unfold sndOk u8lo u8hi at h
    repeat' split at h
    all_goals omega
  unfold dec
  dsimp only
  split
  · dsimp only; omega
  · split
    · rename_i h
      have := sn _ _ h.2
      by_cases h1 : 1 < L.length
      · dsimp only; omega
      · rw [gl 1 h1] at this; omega
    · split
      · rename_i h
        have := h.2.2.1
        by_cases h1 : 2 < L.length
        · dsimp only; omega
        · rw [gl 2 h1] at this; omega
      · split
        · rename_i h
          have := h.2.2.2.1
          by_cases h1 : 3 < L.length
          · dsimp only; omega
          · rw [gl 3 h1] at this; omega
        · dsimp only; omega
theorem runesL_len : ∀ (n : Nat) (L : List Int), (runesL n L).length ≤ n
  | 0, _ => Nat.le_refl _
  | n + 1, L => by
    rw [runesL]
    split
    · simp
    · rw [List.length_cons]
      have := runesL_len n (L.drop (dec L).2.toNat)
      omega
theorem it_facts (S : ByteArray) (p : Nat) (hp : p < S.size) : itRune S (p : Int) = (dec ((y3 S).drop p)).1 ∧ itNext S (p : Int) = ((p + (dec ((y3 S).drop p)).2.toNat : Nat) : Int) := by
  have h := decode_dec S p hp
  have h1 := congrArg Prod.fst h
  have h2 := congrArg Prod.snd h
  dsimp only at h1 h2
  unfold itRune itNext
  rw [Int.toNat_natCast]
  exact ⟨h1, by rw [← h2]; simp⟩
theorem it_go (S : ByteArray) (p : Nat) : itGo S (p : Int) = decide (p < S.size) := by unfold itGo; rw [Int.toNat_natCast]
theorem drop_ne {S : ByteArray} {p : Nat} (hp : p < S.size) : (y3 S).drop p ≠ [] := by
  rw [Ne, List.drop_eq_nil_iff]
  have := size_bytes S
  omega
theorem runesL_more : ∀ (n m : Nat) (L : List Int), L.length < n → L.length < m → runesL n L = runesL m L := by
  intro n
  induction n with
  | zero => intro m L h; omega
  | succ n ih =>
    intro m L hn hm
    obtain ⟨m, rfl⟩ := Nat.exists_eq_succ_of_ne_zero (show m ≠ 0 by omega)
    rw [runesL, runesL]
    by_cases h : L = []
    · rw [if_pos h, if_pos h]
    · obtain ⟨d1, d2⟩ := dec_len L h
      rw [if_neg h, if_neg h, ih m _ (by rw [List.length_drop]; omega) (by rw [List.length_drop]; omega)]
theorem p_l1Runes (S : ByteArray) (hS : S.size ≤ 1000000000) : zc.f S = some (runesL (S.size + 1) (y3 S)) := by
  unfold zc.f
  have hz := size_bytes S
  have key : ∀ (k p : Nat) (out : List Int), p ≤ S.size → S.size - p < k → out.length ≤ p → zc.l1 S k out p = some (out ++ runesL k ((y3 S).drop p)) := by
    intro k
    induction k with
    | zero => intro p out _ h; omega
    | succ k ih =>
      intro p out hp hk ho
      rw [zc.l1, runesL]
      by_cases h : p < S.size
      · have hne := drop_ne h
        obtain ⟨d1, d2⟩ := dec_len _ hne
        rw [List.length_drop, ← hz] at d2
        rw [if_pos (by rw [decide_eq_true_eq]; omega), if_neg hne, p_l1At S p h (by omega)]
        simp only [Option.bind_some]
        rw [app?_at (by simp; omega)]
        simp only [Option.bind_some]
        rw [wrapS (by omega) (by omega)]
        obtain ⟨w, hw⟩ := Int.eq_ofNat_of_zero_le (show 0 ≤ (dec ((y3 S).drop p)).2 by omega)
        rw [hw, show ((p : Int) + (w : Int)) = ((p + w : Nat) : Int) by omega, ih (p + w) _ (by omega) (by omega) (by simp; omega), List.drop_drop, Int.toNat_natCast]
        simp
      · rw [if_neg (by rw [decide_eq_true_eq]; omega), if_pos (by rw [List.drop_eq_nil_iff]; omega), List.append_nil]
  have := key (((S.size : Int) - 0).toNat + 2) 0 [] (by omega) (by omega) (by simp)
  rw [show ((0 : Nat) : Int) = 0 from rfl, List.drop_zero, List.nil_append] at this
  rw [this]
  simp only [Option.bind_some]
  rw [runesL_more _ (S.size + 1) _ (by omega) (by omega)]
theorem dec_rngX (L : List Int) (hL : ∀ u ∈ L, 0 ≤ u ∧ u < 256) (hne : L ≠ []) : 0 ≤ (dec L).1 ∧ (dec L).1 ≤ 1114111 := by
  cases L with
  | nil => exact absurd rfl hne
  | cons a r =>
    have ha := hL a (by simp)
    have g0 : (a :: r).getD 0 0 = a := rfl
    have z : ∀ i, r.length ≤ i → (a :: r).getD (i + 1) 0 = 0 := fun i hi => by simp [List.getD, List.getElem?_eq_none hi]
    have s0 : ∀ b, b = 0 → ¬ sndOk a b := fun b hb h => by unfold sndOk u8lo at h; repeat' split at h <;> omega
    have s1 : ∀ b, b = 0 → ¬ cont b := fun b hb h => by unfold cont at h; omega
    have sr : ∀ b, sndOk a b → 128 ≤ b ∧ b ≤ 191 ∧ (a = 244 → b ≤ 143) := fun b h => by unfold sndOk u8lo u8hi at h; repeat' split at h <;> omega
    unfold dec
    simp only [g0, List.length_cons]
    by_cases h1 : a < 128
    · rw [if_pos h1]; simp only; omega
    rw [if_neg h1]
    by_cases h2 : u8n a = 2 ∧ sndOk a ((a :: r).getD 1 0)
    · rw [if_pos h2]
      have hl : 1 ≤ r.length := Nat.le_of_not_lt fun c => s0 _ (z 0 (by omega)) h2.2
      have := sr _ h2.2
      have := h2.1
      unfold u8n at this
      simp only
      repeat' split at this <;> omega
    rw [if_neg h2]
    by_cases h3 : u8n a = 3 ∧ sndOk a ((a :: r).getD 1 0) ∧ cont ((a :: r).getD 2 0)
    · rw [if_pos h3]
      have hl : 2 ≤ r.length := Nat.le_of_not_lt fun c => s1 _ (z 1 (by omega)) h3.2.2
      have := sr _ h3.2.1
      have hc := h3.2.2
      unfold cont at hc
      have := h3.1
      unfold u8n at this
      simp only
      repeat' split at this <;> omega
    rw [if_neg h3]
    by_cases h4 : u8n a = 4 ∧ sndOk a ((a :: r).getD 1 0) ∧ cont ((a :: r).getD 2 0) ∧ cont ((a :: r).getD 3 0)
    · rw [if_pos h4]
      have hl : 3 ≤ r.length := Nat.le_of_not_lt fun c => s1 _ (z 2 (by omega)) h4.2.2.2
      have := sr _ h4.2.1
      have hc := h4.2.2.1
      have hd := h4.2.2.2
      unfold cont at hc hd
      have := h4.1
      unfold u8n at this
      simp only
      repeat' split at this <;> omega
    rw [if_neg h4]
    simp only
    omega
theorem p_runesOf (S : ByteArray) (hS : S.size ≤ 1000000000) : zu.f S = some (runesL (S.size + 1) (y3 S)) := by
  unfold zu.f
  have hz := size_bytes S
  have key : ∀ (k p : Nat) (out : List Int), p ≤ S.size → S.size - p < k → out.length ≤ p → zu.l1 S k out p = some (out ++ runesL k ((y3 S).drop p)) := by
    intro k
    induction k with
    | zero => intro p out _ h; omega
    | succ k ih =>
      intro p out hp hk ho
      rw [zu.l1, runesL, it_go]
      by_cases h : p < S.size
      · have hne := drop_ne h
        obtain ⟨d1, d2⟩ := dec_len _ hne
        rw [List.length_drop, ← hz] at d2
        obtain ⟨i1, i2⟩ := it_facts S p h
        obtain ⟨r1, r2⟩ := dec_rngX ((y3 S).drop p) (fun u hu => bytes_rng S u (List.mem_of_mem_drop hu)) hne
        rw [if_pos (by simpa using h), if_neg hne, i1, i2, wrapS (by omega) (by omega), app?_at (by simp; omega)]
        simp only [Option.bind_some]
        rw [ih _ _ (by omega) (by omega) (by simp; omega), List.drop_drop]
        simp
      · rw [if_neg (by simpa using h), if_pos (by rw [List.drop_eq_nil_iff]; omega), List.append_nil]
  have := key (S.size + 2) 0 [] (by omega) (by omega) (by simp)
  rw [show ((0 : Nat) : Int) = 0 from rfl, List.drop_zero, List.nil_append] at this
  rw [this]
  simp only [Option.bind_some]
  rw [runesL_more _ (S.size + 1) _ (by omega) (by omega)]
theorem cutW {α : Type} {x : List α} {n : Nat} (h : n ≤ x.length) : cut? x (n : Int) (x.length : Int) = some (x.drop n) := by
  have := cut?_at (xs := x) (a := n) (b := x.length) h (by omega)
  simpa using this
theorem one_of {X : List ByteArray} {S : ByteArray} (h : X.map y3 = [y3 S]) : X = [S] := map_bytesB_inj (h.trans (by rw [List.map_singleton]))
theorem splitL_first {c : Int} {l h : List Int} {t : List (List Int)} (e : splitL c l = h :: t) : c ∉ h ∧ ((t = [] ∧ l = h) ∨ ∃ m, l = h ++ c :: m ∧ t = splitL c m) := by
  by_cases hc : c ∈ l
  · obtain ⟨a, b, rfl, ha⟩ := List.eq_append_cons_of_mem hc
    rw [splitL_at ha] at e
    simp only [List.cons.injEq] at e
    obtain ⟨rfl, rfl⟩ := e
    exact ⟨ha, .inr ⟨b, rfl, rfl⟩⟩
  · rw [splitL_no hc] at e
    simp only [List.cons.injEq] at e
    obtain ⟨rfl, rfl⟩ := e
    exact ⟨hc, .inl ⟨rfl, rfl⟩⟩
theorem splitL_sizes {c : Int} : ∀ {l : List Int} {w : List Int}, w ∈ splitL c l → w.length ≤ l.length
  | [], w, h => by
    simp [splitL] at h
    subst h
    simp
  | x :: l, w, h => by
    have ih := fun w => @splitL_sizes c l w
    unfold splitL at h
    split at h
    · rcases List.mem_cons.1 h with rfl | h
      · simp
      · have := ih w h; simp; omega
    · split at h
      · rename_i a t e
        rcases List.mem_cons.1 h with rfl | h
        · have := ih a (by rw [e]; simp); simp; omega
        · have := ih w (by rw [e]; simp [h]); simp; omega
      · simp at h
        subst h
        simp
theorem ck_fin (r : Int) (N : Int × Bool) (n1 : 0 ≤ r → N = (r, true) ∧ r < 1000000) (n2 : N.2 = true → N.1 = r ∨ N.1 < 0 ∨ 1000000 ≤ N.1) (T : ByteArray) (e ok : Bool) (T' : ByteArray) (e' ok' : Bool) (h : N.2 = true → (T = T' ∧ e = e' ∧ ok = ok') ∨ (ok = false ∧ ok' = false)) :
    ∃ (t : Int) (U : ByteArray) (d o : Bool) (t' : Int) (U' : ByteArray) (d' o' : Bool), ((if decide (r < 0) = true then some true else some false).bind fun (o : Bool) => if o = true then some (r, (⟨#[]⟩ : ByteArray), false, false) else some (r, T, e, ok)) = some (t, U, d, o) ∧ (if (!N.2) = true then some ((0 : Int), (⟨#[]⟩ : ByteArray), false, false) else some (N.1, T', e', ok')) = some (t', U', d', o') ∧ ((t = t' ∧ U = U' ∧ d = d' ∧ o = o') ∨ (o = false ∧ o' = false) ∨ (o = false ∧ (t' < 0 ∨ 10000 < t'))) := by
  by_cases h0 : r < 0
  · have hd : decide (r < 0) = true := decide_eq_true h0
    rw [hd]
    cases h2 : N.2 with
    | false => exact ⟨_, _, _, _, _, _, _, _, rfl, rfl, .inr (.inl ⟨rfl, rfl⟩)⟩
    | true => exact ⟨_, _, _, _, _, _, _, _, rfl, rfl, .inr (.inr ⟨rfl, by have := n2 h2; omega⟩)⟩
  · have hd : decide (r < 0) = false := decide_eq_false h0
    obtain ⟨rfl, _⟩ := n1 (by omega)
    rw [hd]
    refine ⟨_, _, _, _, _, _, _, _, rfl, rfl, ?_⟩
    rcases h rfl with ⟨a, b, c⟩ | ⟨a, b⟩
    · exact .inl ⟨rfl, a, b, c⟩
    · exact .inr (.inl ⟨a, b⟩)
/-- What both sides make of what stands behind the tick. -/
theorem p_chunk (S : ByteArray) (en : Int) (hS : S.size ≤ 100000) : ∃ (t : Int) (T : ByteArray) (e ok : Bool) (t' : Int) (T' : ByteArray) (e' ok' : Bool), zi.f S en = some (t, T, e, ok) ∧ z06.f S en = some (t', T', e', ok') ∧ ((t = t' ∧ T = T' ∧ e = e' ∧ ok = ok') ∨ (ok = false ∧ ok' = false) ∨ (ok = false ∧ (t' < 0 ∨ 10000 < t'))) := by
  have hz := size_bytes S
  unfold zi.f z06.f
  obtain ⟨X, x1, x2, x3⟩ := p_l1Split S 32 (by omega)
  rw [x1]
  simp only [Option.bind_some]
  rcases p_cut S (by omega) with ⟨c1, c2⟩ | ⟨A, B, c1, c2, c3⟩
  · rw [splitL_no c1] at x2
    have := one_of x2
    subst this
    rw [c2, show rd? [S] 0 = some S from rfl]
    simp only [Option.bind_some]
    obtain ⟨r, r1, r2, r3⟩ := p_l1Read S (by omega)
    have hn : zr.f S = some (numR S) := if_pos (by omega)
    rw [r1, hn]
    simp only [Option.bind_some]
    have hif : (if decide (r < 0) = true then some true else some (decide ((([S] : List ByteArray).length : Int) < 2))) = some true := by
      split <;> rfl
    rw [hif]
    simp only [Option.bind_some, if_true]
    obtain ⟨Y, y1, y2⟩ := p_split (⟨#[]⟩ : ByteArray) 32 (by decide)
    have hY : Y = [⟨#[]⟩] := map_bytesB_inj (y2.trans rfl)
    subst hY
    rw [y1]
    rcases p_say (⟨#[]⟩ : ByteArray) with ⟨B, _, b2⟩ | ⟨B, b1, _⟩
    · cases b2
    rw [b1]
    cases h2 : (numR S).2 with
    | false => exact ⟨_, _, _, _, _, _, _, _, rfl, rfl, .inr (.inl ⟨rfl, rfl⟩)⟩
    | true =>
      have e1 : ((⟨#[]⟩ : ByteArray).toList == (⟨#[101, 111, 102]⟩ : ByteArray).toList) = false := (strB _ _).trans (by decide)
      have e2 : ((⟨#[]⟩ : ByteArray).toList == (⟨#[98, 121, 116, 101, 115]⟩ : ByteArray).toList) = false := (strB _ _).trans (by decide)
      have e3 : rd? [(⟨#[]⟩ : ByteArray)] 0 = some ⟨#[]⟩ := rfl
      simp only [Option.bind_some, e1, e2, e3, Bool.not_true, Bool.false_eq_true, if_false]
      exact ⟨_, _, _, _, _, _, _, _, rfl, rfl, .inr (.inl ⟨rfl, rfl⟩)⟩
  · rw [c2, splitL_at c3] at x2
    cases X with
    | nil => cases x2
    | cons A' Y =>
      rw [List.map_cons] at x2
      injection x2 with x4 x5
      have := bytesB_inj x4
      subst this
      rw [c1, show rd? (A' :: Y) 0 = some A' from rfl]
      simp only [Option.bind_some]
      have hzA := size_bytes A'
      have hzB := size_bytes B
      have hlen : S.size = A'.size + 1 + B.size := by rw [hz, c2, List.length_append, List.length_cons]; omega
      obtain ⟨r, r1, r2, r3⟩ := p_l1Read A' (by omega)
      obtain ⟨n1, n2⟩ := num_both A' r r2 r3
      have hn : zr.f A' = some (numR A') := if_pos (by omega)
      rw [r1, hn]
      simp only [Option.bind_some]
      obtain ⟨Y', y1, y2⟩ := p_split B 32 (by omega)
      have hY : Y' = Y := map_bytesB_inj (y2.trans x5.symm)
      subst hY
      rw [y1]
      simp only [Option.bind_some]
      cases Y' with
      | nil => exact absurd x5.symm (splitL_ne _ _)
      | cons y ys =>
        have hl2 : decide (((A' :: y :: ys).length : Int) < 2) = false := decide_eq_false (by show ¬ (((ys.length + 2 : Nat) : Int) < 2); omega)
        have hlen2 : (((A' :: y :: ys).length : Nat) : Int) = ((ys.length + 2 : Nat) : Int) := rfl
        rw [hl2, show rd? (A' :: y :: ys) 1 = some y from rfl, show rd? (y :: ys) 0 = some y from rfl]
        simp only [Option.bind_some]
        rw [List.map_cons] at x5
        obtain ⟨f1, f2⟩ := splitL_first x5.symm
        have hc2 : cut? (A' :: y :: ys) 2 ((A' :: y :: ys).length : Int) = some ys := cutW (x := A' :: y :: ys) (n := 2) (by show 2 ≤ ys.length + 2; omega)
        have hc1 : cut? (y :: ys) 1 ((y :: ys).length : Int) = some ys := cutW (x := y :: ys) (n := 1) (by show 1 ≤ ys.length + 1; omega)
        rw [hc2, hc1]
        simp only [Option.bind_some]
        have w1 : ∀ Z : ByteArray, (Z.toList == (⟨#[101, 111, 102]⟩ : ByteArray).toList) = decide (y3 Z = [101, 111, 102]) := fun Z => strB Z _
        have w2 : ∀ Z : ByteArray, (Z.toList == (⟨#[98, 121, 116, 101, 115]⟩ : ByteArray).toList) = decide (y3 Z = [98, 121, 116, 101, 115]) := fun Z => strB Z _
        have w3 : ∀ Z : ByteArray, (Z.toList == (⟨#[115, 97, 121]⟩ : ByteArray).toList) = decide (y3 Z = [115, 97, 121]) := fun Z => strB Z _
        rw [w1, w1, w2, w3]
        by_cases v1 : y3 y = [101, 111, 102]
        · have hsay : ∃ B0, zt.f B (⟨#[115, 97, 121, 32]⟩ : ByteArray) = some (B0, false) := by
            rcases p_say B with ⟨B0, b1, b2⟩ | ⟨B0, b1, _⟩
            · rcases f2 with ⟨_, g⟩ | ⟨m, g, _⟩
              · rw [g, v1] at b2; cases b2
              · rw [g, v1] at b2; cases b2
            · exact ⟨B0, b1⟩
          obtain ⟨B0, hsay⟩ := hsay
          rw [hsay]
          have v2 : decide (y3 y = [98, 121, 116, 101, 115]) = false := by rw [v1]; decide
          rcases f2 with ⟨g1, g⟩ | ⟨m, g, g2⟩
          · have hys : ys = [] := by cases ys with | nil => rfl | cons _ _ => cases g1
            subst hys
            have hB : decide (y3 B = [101, 111, 102]) = true := by rw [g, v1]; decide
            simp only [hB, v1, decide_true, if_true, Option.bind_some]
            exact ck_fin r (numR A') n1 n2 ⟨#[]⟩ true _ ⟨#[]⟩ true _ fun h => .inl ⟨rfl, rfl, h.symm⟩
          · have hB : decide (y3 B = [101, 111, 102]) = false := by rw [g, v1]; exact decide_eq_false (by simp)
            have hL : (((A' :: y :: ys).length : Int) == 2) = false := by
              have : ys ≠ [] := fun e => splitL_ne 32 m (by rw [← g2, e]; rfl)
              cases ys with
              | nil => exact absurd rfl this
              | cons _ _ => simp; omega
            simp only [hB, v1, v2, hL, decide_true, if_true, Option.bind_some, Bool.false_eq_true, if_false]
            exact ck_fin r (numR A') n1 n2 ⟨#[]⟩ true _ ⟨#[]⟩ false _ fun h => .inr ⟨rfl, rfl⟩
        have v1' : decide (y3 y = [101, 111, 102]) = false := decide_eq_false v1
        have hB : decide (y3 B = [101, 111, 102]) = false := by
          refine decide_eq_false fun hb => v1 ?_
          rw [hb, splitL_no (by decide)] at x5
          exact (List.cons.inj x5).1
        rw [v1', hB]
        have hsz : ∀ Z ∈ ys, Z.size ≤ 1000000 := by
          intro Z hZ
          have : y3 Z ∈ splitL 32 (y3 B) := by rw [← x5]; exact List.mem_cons_of_mem _ (List.mem_map_of_mem hZ)
          have := splitL_sizes this
          rw [size_bytes]
          omega
        have hyl : ys.length ≤ 1000000 := by
          have := splitL_len 32 (y3 B)
          rw [← x5] at this
          simp at this
          omega
        by_cases v2 : y3 y = [98, 121, 116, 101, 115]
        · have hsay : ∃ B0, zt.f B (⟨#[115, 97, 121, 32]⟩ : ByteArray) = some (B0, false) := by
            rcases p_say B with ⟨B0, b1, b2⟩ | ⟨B0, b1, _⟩
            · rcases f2 with ⟨_, g⟩ | ⟨m, g, _⟩
              · rw [g, v2] at b2; cases b2
              · rw [g, v2] at b2; cases b2
            · exact ⟨B0, b1⟩
          obtain ⟨B0, hsay⟩ := hsay
          obtain ⟨z, z1, z2⟩ := p_bytesOf ys hyl hsz
          rw [hsay, z1, z2, decide_eq_true v2]
          simp only [Option.bind_some, if_true, Bool.false_eq_true, if_false]
          exact ck_fin r (numR A') n1 n2 z.1 false z.2 z.1 false z.2 fun _ => .inl ⟨rfl, rfl, rfl⟩
        have v2' : decide (y3 y = [98, 121, 116, 101, 115]) = false := decide_eq_false v2
        rw [v2']
        by_cases v3 : y3 y = [115, 97, 121]
        · rw [decide_eq_true v3]
          rcases f2 with ⟨g1, g⟩ | ⟨m, g, g2⟩
          · have hys : ys = [] := by cases ys with | nil => rfl | cons _ _ => cases g1
            subst hys
            rcases p_say B with ⟨B0, b1, b2⟩ | ⟨B0, b1, _⟩
            · rw [g, v3] at b2; cases b2
            rw [b1]
            have hL : (((A' :: y :: ([] : List ByteArray)).length : Int) == 2) = true := rfl
            simp only [Option.bind_some, if_true, Bool.false_eq_true, if_false, hL]
            exact ck_fin r (numR A') n1 n2 ⟨#[]⟩ false false ⟨#[]⟩ false false fun _ => .inl ⟨rfl, rfl, rfl⟩
          · rcases p_say B with ⟨B0, b1, b2⟩ | ⟨B0, _, b2⟩
            case inr => exact absurd (by rw [g, v3]; rfl) (b2 m)
            have hL : (((A' :: y :: ys).length : Int) == 2) = false := by
              have : ys ≠ [] := fun e => splitL_ne 32 m (by rw [← g2, e]; rfl)
              cases ys with
              | nil => exact absurd rfl this
              | cons _ _ => simp; omega
            have hw : IntKind.i64.wrap ((A'.size : Int) + 5) = ((A'.size + 5 : Nat) : Int) := by rw [wrapS (by omega) (by omega)]; omega
            have hB4 : B.size = 4 + B0.size := by rw [hzB, b2, size_bytes B0]; simp; omega
            obtain ⟨U, u1, u2⟩ := cutS_at S (a := A'.size + 5) (b := S.size) (by omega) (Nat.le_refl _)
            have hU : U = B0 := by
              refine bytesB_inj ?_
              rw [u2, List.take_of_length_le (by omega), c2, b2, hzA, show (y3 A').length + 5 = (y3 A' ++ 32 :: 115 :: 97 :: 121 :: 32 :: ([] : List Int)).length by simp, show y3 A' ++ 32 :: 115 :: 97 :: 121 :: 32 :: y3 B0 = (y3 A' ++ 32 :: 115 :: 97 :: 121 :: 32 :: []) ++ y3 B0 by simp]
              exact List.drop_left' rfl
            subst hU
            rw [b1, hL, hw, u1]
            have hrl := runesL_len (U.size + 1) (y3 U)
            obtain ⟨z, z1, z2⟩ := p_EncodeAll en (runesL (U.size + 1) (y3 U)) (by unfold big; omega)
            simp only [Option.bind_some, if_true, Bool.false_eq_true, if_false, p_l1Runes U (by omega), p_runesOf U (by omega), z1, z2]
            cases hz2 : z.2.2 with
            | true =>
              simp only [Option.bind_some, if_true]
              exact ck_fin r (numR A') n1 n2 z.1 false _ z.1 false _ fun _ => .inl ⟨rfl, rfl, rfl⟩
            | false =>
              simp only [Option.bind_some, Bool.false_eq_true, if_false]
              exact ck_fin r (numR A') n1 n2 z.1 false false z.1 false false fun _ => .inl ⟨rfl, rfl, rfl⟩
        · rw [decide_eq_false v3]
          rcases p_say B with ⟨B0, b1, b2⟩ | ⟨B0, b1, _⟩
          · refine absurd ?_ v3
            have e : splitL 32 (y3 B) = [115, 97, 121] :: splitL 32 (y3 B0) := by
              rw [b2, show 115 :: 97 :: 121 :: 32 :: y3 B0 = [115, 97, 121] ++ 32 :: y3 B0 from rfl]
              exact splitL_at (by decide)
            rw [e] at x5
            exact (List.cons.inj x5).1
          rw [b1]
          simp only [Option.bind_some, Bool.false_eq_true, if_false]
          exact ck_fin r (numR A') n1 n2 ⟨#[]⟩ false false ⟨#[]⟩ false false fun _ => .inl ⟨rfl, rfl, rfl⟩
abbrev Ch := Int × ByteArray × Bool
/-- Whether chunks come in order, from a tick on. -/
def pk : Int → List Ch → Bool
  | _, [] => true
  | t, c :: cs => (decide (t ≤ c.1) && decide (c.1 ≤ 10000)) && decide ((c.2.1.size : Int) ≤ 1000) && !(c.2.2 && (!decide (y3 c.2.1 = []) || !cs.isEmpty)) && pk c.1 cs
theorem beqE (S : ByteArray) : (S.toList == (⟨#[]⟩ : ByteArray).toList) = decide (y3 S = []) := strB S _
theorem emp (p : List Ch) (i : Nat) (h : i < p.length) (hp : p.length ≤ 1000000000) : decide ((i : Int) < IntKind.i64.wrap ((p.length : Int) - 1)) = !(p.drop (i + 1)).isEmpty := by
  rw [wrapS (by omega) (by omega), Bool.eq_iff_iff]
  simp only [decide_eq_true_eq, Bool.not_eq_true', List.isEmpty_eq_false_iff, Ne, List.drop_eq_nil_iff]
  omega
theorem p_implPeer (p : List Ch) (hp : p.length ≤ 1000000000) : z07.f p = some (pk 0 p && decide ((p.length : Int) ≤ 20)) := by
  unfold z07.f
  have key : ∀ (k i : Nat) (t : Int), i ≤ p.length → p.length - i < k → z07.l1 p k t i = some (if pk t (p.drop i) = true then .go () else .ret false) := by
    intro k
    induction k with
    | zero => intro i t _ h; omega
    | succ k ih =>
      intro i t hi hk
      rw [z07.l1]
      by_cases h : i < p.length
      · rw [if_pos (by rw [decide_eq_true_eq]; omega), rd?_at h, List.drop_eq_getElem_cons h, pk]
        have hE := emp p i h hp
        generalize hc : p[i] = c at *
        simp only [Option.bind_some, p_inRange, beqE, hE]
        have e1 : decide ((c.2.1.size : Int) > 1000) = !decide ((c.2.1.size : Int) ≤ 1000) := by rw [Bool.eq_iff_iff]; simp only [decide_eq_true_eq, Bool.not_eq_true', decide_eq_false_iff_not]; omega
        rw [e1, wrapN i (by omega), ih (i + 1) c.1 h (by omega)]
        cases (decide (t ≤ c.1) && decide (c.1 ≤ 10000)) <;> cases decide ((c.2.1.size : Int) ≤ 1000) <;> cases c.2.2 <;> cases decide (y3 c.2.1 = []) <;> cases (p.drop (i + 1)).isEmpty <;> simp
      · rw [if_neg (by rw [decide_eq_true_eq]; omega), List.drop_eq_nil_of_le (by omega), pk]
        rfl
  have := key (((p.length : Int) - 0).toNat + 2) 0 0 (by omega) (by omega)
  rw [show ((0 : Nat) : Int) = 0 from rfl, List.drop_zero] at this
  rw [this]
  cases pk 0 p <;> simp
theorem p_specPeer (p : List Ch) (hp : p.length ≤ 1000000000) : zk.f p = some (pk 0 p && decide ((p.length : Int) ≤ 20)) := by
  unfold zk.f
  have key : ∀ (k i : Nat) (t : Int), i ≤ p.length → p.length - i < k → 0 ≤ t → (∀ (h0 : 0 < i) (h : i - 1 < p.length), t = p[i - 1].1) → (i = 0 → t = 0) → zk.l1 p k i = some (if pk t (p.drop i) = true then .go () else .ret false) := by
    intro k
    induction k with
    | zero => intro i t _ h; omega
    | succ k ih =>
      intro i t hi hk ht hprev h0
      rw [zk.l1]
      by_cases h : i < p.length
      · rw [if_pos (by rw [decide_eq_true_eq]; omega), rd?_at h, List.drop_eq_getElem_cons h, pk]
        have hE := emp p i h hp
        have hnx : 0 ≤ p[i].1 → zk.l1 p k ((i + 1 : Nat) : Int) = some (if pk p[i].1 (p.drop (i + 1)) = true then .go () else .ret false) := fun hc =>
          ih (i + 1) p[i].1 h (by omega) hc (fun _ _ => by simp) (fun h => by omega)
        generalize hc : p[i] = c at *
        have hpv : (if decide ((i : Int) > 0) = true then (rd? p (IntKind.i64.wrap ((i : Int) - 1))).bind fun u616 => some (decide (u616.1 > c.1)) else some false) = some (decide (0 < i) && decide (t > c.1)) := by
          by_cases hi0 : 0 < i
          · have e := hprev hi0 (by omega)
            rw [if_pos (by rw [decide_eq_true_eq]; omega), wrapS (by omega) (by omega), show ((i : Int) - 1) = ((i - 1 : Nat) : Int) by omega, rd?_at (show i - 1 < p.length by omega), e]
            simp [hi0]
          · rw [if_neg (by rw [decide_eq_true_eq]; omega)]
            simp [hi0]
        simp only [Option.bind_some, p_l1In, beqE, hE, zj.f, hpv]
        rw [wrapN i (by omega)]
        by_cases g1 : t ≤ c.1
        · have g2 : 0 ≤ c.1 := by omega
          have g3 : ¬ t > c.1 := by omega
          rw [hnx g2]
          simp only [g1, g2, g3, decide_true, decide_false, Bool.true_and, Bool.and_false]
          cases decide (c.1 ≤ 10000) <;> cases decide ((c.2.1.size : Int) ≤ 1000) <;> cases c.2.2 <;> cases decide (y3 c.2.1 = []) <;> cases (p.drop (i + 1)).isEmpty <;> simp
        · simp only [g1, decide_false, Bool.false_and, Bool.false_eq_true, if_false]
          by_cases g2 : 0 ≤ c.1
          · have g4 : 0 < i := by
              rcases Nat.eq_zero_or_pos i with hz | hz
              · have := h0 hz; omega
              · exact hz
            have g3 : t > c.1 := by omega
            simp only [g2, g3, g4, decide_true, Bool.true_and]
            cases decide (c.1 ≤ 10000) <;> cases decide ((c.2.1.size : Int) ≤ 1000) <;> simp
          · simp [g2]
      · rw [if_neg (by rw [decide_eq_true_eq]; omega), List.drop_eq_nil_of_le (by omega), pk]
        rfl
  have := key (((p.length : Int) - 0).toNat + 2) 0 0 (by omega) (by omega) (Int.le_refl _) (fun h => absurd h (Nat.lt_irrefl 0)) (fun _ => rfl)
  rw [show ((0 : Nat) : Int) = 0 from rfl, List.drop_zero] at this
  rw [this]
  cases pk 0 p <;> simp
theorem tot_markText (n : Int) (h1 : n ≤ 1000000) : ∃ T, z0c.f n = some T := by
  unfold z0c.f
  by_cases h0 : n ≤ 0
  · rw [if_pos (by simpa using h0)]; exact ⟨_, rfl⟩
  rw [if_neg (by simpa using h0)]
  have key : ∀ (k : Nat) (x : Int) (acc : ByteArray), 0 ≤ x → x < k → x ≤ 1000000 → acc.size + x.toNat ≤ 1000000 → ∃ T, z0c.l1 k x acc = some T ∧ T.size ≤ 1000000 := by
    intro k
    induction k with
    | zero => intro x acc a b; omega
    | succ k ih =>
      intro x acc a b c d
      rw [z0c.l1]
      by_cases hx : x > 0
      · rw [if_pos (by simpa using hx), rem_pos a (by omega), quo_pos a (by omega) (by omega) (by omega)]
        simp only [Option.bind_some]
        have hs : (textB [IntKind.u8.wrap (IntKind.i64.wrap (48 + x % 10))]).size = 1 := rfl
        rw [show cat? 1000000000000 (textB [IntKind.u8.wrap (IntKind.i64.wrap (48 + x % 10))]) acc = some (textB [IntKind.u8.wrap (IntKind.i64.wrap (48 + x % 10))] ++ acc) from if_pos (by omega)]
        simp only [Option.bind_some]
        exact ih _ _ (by omega) (by omega) (by omega) (by rw [ByteArray.size_append, hs]; omega)
      · rw [if_neg (by simpa using hx)]
        exact ⟨_, rfl, by omega⟩
  obtain ⟨T, e, hT⟩ := key ((n - 0).toNat + 2) n ⟨#[]⟩ (by omega) (by omega) h1 (by show 0 + _ ≤ _; omega)
  rw [e]
  simp only [Option.bind_some]
  rw [show cat? 1000000000000 (⟨#[109]⟩ : ByteArray) T = some ((⟨#[109]⟩ : ByteArray) ++ T) from if_pos (by show 1 + _ ≤ _; omega)]
  exact ⟨_, rfl⟩
def mtx (n : Int) : ByteArray := (z0c.f n).getD ⟨#[]⟩
theorem p_mtx {n : Int} (h1 : n ≤ 1000000) : z0c.f n = some (mtx n) := by
  obtain ⟨T, e⟩ := tot_markText n h1
  unfold mtx
  rw [e]
  rfl
def mCh (u : Ch) (c : Int) : Int × Ch := (c + 3, (c, mtx (c + 1), (c + 2) % 3 == 0))
def gCh (us : List Ch) (c : Int) : Prop := 0 ≤ c ∧ c + 3 * us.length ≤ 900000
theorem gCh_step (u : Ch) (us : List Ch) (c : Int) (h : gCh (u :: us) c) : gCh us (mCh u c).1 := by
  obtain ⟨h0, h1⟩ := h
  rw [List.length_cons] at h1
  exact ⟨by simp only [mCh]; omega, by simp only [mCh]; omega⟩
theorem p_markChunkS (d : List Ch) (c : Int) (hg : gCh d c) : z0d.f d c = some (mAll mCh d c) := by
  unfold z0d.f
  have := mark_loop d.length (by have := hg.1; have := hg.2; unfold big; omega) mCh gCh gCh_step (z0d.l1 d) (fun x82 x83 x84 K => (rd? x82 x84).bind fun u111 => (st? x82 x84 (x83, u111.2.1, u111.2.2)).bind fun x112 => (z0c.f (IntKind.i64.wrap (x83 + 1))).bind fun u115 => (rd? x112 x84).bind fun u116 => (st? x112 x84 (u116.1, u115, u116.2.2)).bind fun x117 => (rem? (IntKind.i64.wrap ((IntKind.i64.wrap (x83 + 1)) + 1)) 3).bind fun u120 => (rd? x117 x84).bind fun u121 => (st? x117 x84 (u121.1, u121.2.1, u120 == 0)).bind fun x122 => K x122 (IntKind.i64.wrap ((IntKind.i64.wrap ((IntKind.i64.wrap (x83 + 1)) + 1)) + 1)))
    (fun pre u us c K hg => by
      obtain ⟨h0, h1⟩ := hg
      rw [List.length_cons] at h1
      have e1 : ∀ v : Ch, rd? (pre ++ v :: us) (pre.length : Int) = some v := fun v => by rw [rd?_at (by simp)]; simp
      have e2 : ∀ v w : Ch, st? (pre ++ v :: us) (pre.length : Int) w = some (pre ++ w :: us) := fun v w => by rw [st?_at _ (by simp)]; simp
      have w1 : IntKind.i64.wrap (c + 1) = c + 1 := wrapS (by omega) (by omega)
      have w2 : IntKind.i64.wrap (c + 1 + 1) = c + 2 := by rw [wrapS (by omega) (by omega)]; omega
      have w3 : IntKind.i64.wrap (c + 2 + 1) = c + 3 := by rw [wrapS (by omega) (by omega)]; omega
      simp only [e1, e2, w1, w2, w3, Option.bind_some, p_mtx (n := c + 1) (by omega), rem_pos (r := c + 2) (n := 3) (by omega) (by omega)]
      rfl) (fun _ _ _ _ => rfl) d [] c (((d.length : Int) - 0).toNat + 2) (by simp) (by omega) hg
  simp only [List.nil_append, List.length_nil] at this
  rw [show ((0 : Nat) : Int) = 0 from rfl] at this
  rw [this]
  rfl
theorem p_heldChunkS (d : List Ch) (c : Int) (hg : gCh d c) : z0e.f (mAll mCh d c).2 c = some (mAll mCh d c).1 := by
  unfold z0e.f
  have := held_loop d.length (by have := hg.1; have := hg.2; unfold big; omega) mCh gCh gCh_step z0e.l1 (fun p0 x103 x104 K => (rd? p0 x104).bind fun u137 => if (u137.1 != x103) = true then ((some (-1)).bind fun z => some (Lo.ret z)) else ((rd? p0 x104).bind fun u143 => (z0c.f (IntKind.i64.wrap (x103 + 1))).bind fun u144 => if (!(u143.2.1.toList == u144.toList)) = true then ((some (-1)).bind fun z => some (Lo.ret z)) else ((rd? p0 x104).bind fun u150 => (rem? (IntKind.i64.wrap ((IntKind.i64.wrap (x103 + 1)) + 1)) 3).bind fun u151 => if (u150.2.2 != (u151 == 0)) = true then ((some (-1)).bind fun z => some (Lo.ret z)) else (K (IntKind.i64.wrap ((IntKind.i64.wrap ((IntKind.i64.wrap (x103 + 1)) + 1)) + 1))))))
    (fun pre post u us c K hg => by
      obtain ⟨h0, h1⟩ := hg
      rw [List.length_cons] at h1
      have e1 : rd? (pre ++ (mCh u c).2 :: post) (pre.length : Int) = some (mCh u c).2 := by rw [rd?_at (by simp)]; simp
      have w1 : IntKind.i64.wrap (c + 1) = c + 1 := wrapS (by omega) (by omega)
      have w2 : IntKind.i64.wrap (c + 1 + 1) = c + 2 := by rw [wrapS (by omega) (by omega)]; omega
      have w3 : IntKind.i64.wrap (c + 2 + 1) = c + 3 := by rw [wrapS (by omega) (by omega)]; omega
      have f1 : (mCh u c).2.1 = c := rfl
      have f2 : (mCh u c).2.2.1 = mtx (c + 1) := rfl
      have f3 : (mCh u c).2.2.2 = ((c + 2) % 3 == 0) := rfl
      have f4 : (mCh u c).1 = c + 3 := rfl
      simp only [e1, w1, w2, w3, Option.bind_some, p_mtx (n := c + 1) (by omega), rem_pos (r := c + 2) (n := 3) (by omega) (by omega), f1, f2, f3, f4, bne_self_eq_false, beq_self_eq_true, Bool.not_true, Bool.false_eq_true, if_false]) (fun _ _ _ _ => rfl) d [] c ((((mAll mCh d c).2.length : Int) - 0).toNat + 2) (by simp) (by rw [mAll_len]; omega) hg
  simp only [List.nil_append, List.length_nil] at this
  rw [show ((0 : Nat) : Int) = 0 from rfl] at this
  rw [this]
  rfl
theorem mCh_ge : ∀ (d : List Ch) (c : Int), (mAll mCh d c).1 = c + 3 * d.length
  | [], c => by simp [mAll]
  | u :: us, c => by
    have := mCh_ge us (mCh u c).1
    simp only [mAll, this, List.length_cons]
    simp only [mCh]
    omega
theorem eq_selfCh (p : List Ch) (hp : p.length ≤ big) : z0b.f p p = some true := by
  unfold z0b.f
  rw [if_neg (by simp)]
  unfold big at hp
  have key : ∀ (k i : Nat), i ≤ p.length → p.length - i < k → z0b.l1 p p k i = some (.go ()) := by
    intro k
    induction k with
    | zero => intro i _ h; omega
    | succ k ih =>
      intro i hi hk
      rw [z0b.l1]
      by_cases h : i < p.length
      · rw [if_pos (by rw [decide_eq_true_eq]; omega), rd?_at h]
        simp only [Option.bind_some, z0a.f, bne_self_eq_false, beq_self_eq_true, Bool.not_true, Bool.false_eq_true, if_false]
        rw [wrapN i (by omega)]
        exact ih (i + 1) h (by omega)
      · rw [if_neg (by rw [decide_eq_true_eq]; omega)]
  have := key (((p.length : Int) - 0).toNat + 2) 0 (Nat.zero_le _) (by omega)
  rw [show ((0 : Nat) : Int) = 0 from rfl] at this
  rw [this]
  rfl
theorem p_trim (S : ByteArray) (hS : S.size ≤ 1000000) (L : List Int) (h : y3 S = L ++ [10]) : ∃ T, zo.f S (⟨#[10]⟩ : ByteArray) = some T ∧ y3 T = L := by
  unfold zo.f
  rw [if_pos (by omega)]
  refine ⟨_, rfl, ?_⟩
  have hz := size_bytes S
  have hl : S.data.toList.length = L.length + 1 := by
    have : S.data.toList.length = S.size := by simp
    rw [this, hz, h]
    simp
  have hs : Lib.hasSuffix S.data.toList (⟨#[10]⟩ : ByteArray).data.toList = true := by
    unfold Lib.hasSuffix
    rw [List.isSuffixOf_iff_suffix]
    refine ⟨S.data.toList.take L.length, toNat_inj ?_⟩
    have e : (S.data.toList.map fun b => (b.toNat : Int)) = L ++ [10] := h
    rw [List.map_append, List.map_take, e, List.take_left' rfl]
    rfl
  unfold Lib.trimSuffix
  rw [if_pos hs, bytesB_text, List.map_take]
  have e : (S.data.toList.map fun b => (b.toNat : Int)) = L ++ [10] := h
  rw [e, hl]
  exact List.take_left' rfl
theorem pk_bad : ∀ (l : List Ch) (t : Int) (c : Ch), 0 ≤ t → (c.1 < 0 ∨ 10000 < c.1) → pk t (l ++ [c]) = false
  | [], t, c, h0, h => by
    rw [List.nil_append, pk]
    have : (decide (t ≤ c.1) && decide (c.1 ≤ 10000)) = false := by
      rw [Bool.and_eq_false_iff, decide_eq_false_iff_not, decide_eq_false_iff_not]
      omega
    rw [this]
    rfl
  | u :: l, t, c, h0, h => by
    rw [List.cons_append, pk]
    by_cases hu : t ≤ u.1
    · rw [pk_bad l u.1 c (by omega) h, Bool.and_false]
    · rw [decide_eq_false hu]
      rfl
theorem peer_loops (S : ByteArray) (en : Int) (X : List ByteArray) (hS : y3 S ≠ []) (hX : X.length ≤ 100000) (hs : ∀ Z ∈ X, Z.size ≤ 100000) : ∀ (k i : Nat) (out : List Ch), i ≤ X.length → X.length - i < k → out.length ≤ i → ∃ z, zl.l1 en X k out i = some z ∧ z08.l1 S en X k out i = some z ∧ (match z with | .go l => l.length ≤ X.length | .ret r => r.1 = []) := by
  intro k
  induction k with
  | zero => intro i out _ h; omega
  | succ k ih =>
    intro i out hi hk ho
    rw [zl.l1, z08.l1]
    by_cases h : i < X.length
    · have hz := hs _ (List.getElem_mem h)
      rw [if_pos (by rw [decide_eq_true_eq]; omega), if_pos (by rw [decide_eq_true_eq]; omega), rd?_at h]
      simp only [Option.bind_some]
      have hne : (S.toList == (⟨#[]⟩ : ByteArray).toList) = false := (beqE S).trans (decide_eq_false hS)
      rw [hne]
      simp only [Bool.false_eq_true, if_false]
      obtain ⟨t, T, e, ok, t', T', e', ok', a, b, c⟩ := p_chunk X[i] en hz
      rw [a, b]
      simp only [Option.bind_some]
      rw [app?_at (by simp; omega), app?_at (by simp; omega)]
      simp only [Option.bind_some]
      have hlen : ∀ v : Ch, (out ++ [v]).length ≤ 1000000000 := fun v => by simp; omega
      have hlen2 : ∀ v : Ch, (out ++ [v]).length ≤ i + 1 := fun v => by simp; omega
      rw [p_specPeer _ (hlen _), p_implPeer _ (hlen _)]
      simp only [Option.bind_some]
      rw [wrapN i (by omega)]
      rcases c with ⟨rfl, rfl, rfl, rfl⟩ | ⟨rfl, rfl⟩ | ⟨rfl, hb⟩
      · cases ok with
        | false => exact ⟨_, rfl, rfl, rfl⟩
        | true =>
          simp only [Bool.not_true, Bool.false_eq_true, if_false, Option.bind_some]
          cases hg : (pk 0 (out ++ [(t, T, e)]) && decide (((out ++ [(t, T, e)]).length : Int) ≤ 20)) with
          | false => exact ⟨_, rfl, rfl, rfl⟩
          | true =>
            simp only [Bool.not_true, Bool.false_eq_true, if_false]
            exact ih (i + 1) _ h (by omega) (hlen2 _)
      · exact ⟨_, rfl, rfl, rfl⟩
      · rw [pk_bad out 0 (t', T', e') (Int.le_refl _) hb]
        cases ok' with
        | false => exact ⟨_, rfl, rfl, rfl⟩
        | true => exact ⟨_, rfl, rfl, rfl⟩
    · rw [if_neg (by rw [decide_eq_true_eq]; omega), if_neg (by rw [decide_eq_true_eq]; omega)]
      exact ⟨_, rfl, rfl, by show out.length ≤ _; omega⟩
theorem p_ReadPeer (S : ByteArray) (en : Int) (hS : S.size ≤ 1048576) : ∃ l n ok, zl.f S en = some (l, n, ok) ∧ z09.f S en = some (l, n, ok) ∧ l.length ≤ 100000 := by
  have hz := size_bytes S
  unfold zl.f z09.f z08.f
  rw [(p_code en).1, (p_code en).2]
  simp only [Option.bind_some]
  have hbe : (S.toList == (⟨#[]⟩ : ByteArray).toList) = decide (y3 S = []) := beqE S
  rw [hbe]
  cases hc : (decide (1 ≤ en) && decide (en ≤ 5)) with
  | false =>
    simp only [Bool.not_false, if_true, Option.bind_some]
    by_cases hb : (S.size : Int) > 2000
    · rw [if_pos (by simpa using hb)]
      exact ⟨_, _, _, rfl, rfl, Nat.zero_le _⟩
    rw [if_neg (by simpa using hb)]
    by_cases he : y3 S = []
    · rw [decide_eq_true he]
      exact ⟨_, _, _, rfl, rfl, Nat.zero_le _⟩
    · rw [decide_eq_false he]
      have hp : 0 < S.size := by rw [hz]; exact List.length_pos_iff.2 he
      rw [wrapS (by omega) (by omega), show ((S.size : Int) - 1) = ((S.size - 1 : Nat) : Int) by omega, rdS_at, List.getElem?_eq_getElem (show S.size - 1 < (y3 S).length by omega)]
      simp only [Option.bind_some, Bool.not_false, if_true]
      split <;> exact ⟨_, _, _, rfl, rfl, Nat.zero_le _⟩
  | true =>
    simp only [Bool.not_true, Bool.false_eq_true, if_false, Option.bind_some]
    by_cases hb : (S.size : Int) > 2000
    · rw [decide_eq_true hb]
      exact ⟨_, _, _, rfl, rfl, Nat.zero_le _⟩
    rw [decide_eq_false hb]
    simp only [Bool.false_eq_true, if_false]
    by_cases he : y3 S = []
    · rw [decide_eq_true he]
      simp only [Bool.not_true, Bool.false_eq_true, if_false, if_true, Option.bind_some]
      have hSe : S = ⟨#[]⟩ := bytesB_inj he
      subst hSe
      have h1 : zo.f (⟨#[]⟩ : ByteArray) (⟨#[10]⟩ : ByteArray) = some ⟨#[]⟩ := rfl
      obtain ⟨Y, y1, y2⟩ := p_split (⟨#[]⟩ : ByteArray) 10 (by decide)
      have hY : Y = [⟨#[]⟩] := map_bytesB_inj (y2.trans rfl)
      subst hY
      rw [h1]
      simp only [Option.bind_some]
      rw [y1]
      simp only [Option.bind_some]
      have h2 : z08.l1 ⟨#[]⟩ en [⟨#[]⟩] (((([(⟨#[]⟩ : ByteArray)].length : Int)) - 0).toNat + 2) [] 0 = some (.go []) := by
        show z08.l1 ⟨#[]⟩ en [⟨#[]⟩] (2 + 1) [] 0 = _
        rw [z08.l1, if_pos (by decide), show rd? [(⟨#[]⟩ : ByteArray)] 0 = some ⟨#[]⟩ from rfl]
        simp only [Option.bind_some, beq_self_eq_true, if_true]
      rw [h2]
      exact ⟨_, _, _, rfl, rfl, Nat.zero_le _⟩
    · rw [decide_eq_false he]
      have hp : 0 < S.size := by rw [hz]; exact List.length_pos_iff.2 he
      have hlt : S.size - 1 < (y3 S).length := by omega
      rw [wrapS (by omega) (by omega), show ((S.size : Int) - 1) = ((S.size - 1 : Nat) : Int) by omega, rdS_at, List.getElem?_eq_getElem hlt]
      simp only [Option.bind_some, Bool.not_false, if_true, Bool.false_eq_true, if_false]
      by_cases h10 : (y3 S)[S.size - 1] = 10
      · have hne : ((y3 S)[S.size - 1] != 10) = false := by simpa using h10
        rw [hne]
        simp only [Option.bind_some, Bool.false_eq_true, if_false]
        obtain ⟨T, t1, t2⟩ := cutS_at S (a := 0) (b := S.size - 1) (Nat.zero_le _) (by omega)
        rw [show ((0 : Nat) : Int) = 0 from rfl] at t1
        rw [List.drop_zero] at t2
        have hL : y3 S = (y3 S).take (S.size - 1) ++ [10] := by
          conv => lhs; rw [← List.take_append_drop (S.size - 1) (y3 S)]
          rw [List.drop_eq_getElem_cons hlt, h10, List.drop_of_length_le (by omega)]
        obtain ⟨T', u1, u2⟩ := p_trim S (by omega) _ hL
        have hT : T' = T := bytesB_inj (u2.trans t2.symm)
        subst hT
        rw [t1, u1]
        simp only [Option.bind_some]
        have hTs : T'.size ≤ 2000 := by rw [size_bytes, t2, List.length_take]; omega
        obtain ⟨X, x1, x2, x3⟩ := p_l1Split T' 10 (by omega)
        obtain ⟨Y, y1, y2⟩ := p_split T' 10 (by omega)
        have hY : Y = X := map_bytesB_inj (y2.trans x2.symm)
        subst hY
        rw [x1, y1]
        simp only [Option.bind_some]
        have hs : ∀ Z ∈ Y, Z.size ≤ 100000 := by
          intro Z hZ
          have : y3 Z ∈ splitL 10 (y3 T') := by rw [← x2]; exact List.mem_map_of_mem hZ
          have := splitL_sizes this
          have := size_bytes Z
          have := size_bytes T'
          omega
        obtain ⟨z, z1, z2, z3⟩ := peer_loops S en Y he (by omega) hs (((Y.length : Int) - 0).toNat + 2) 0 [] (Nat.zero_le _) (by omega) (Nat.le_refl _)
        rw [show ((0 : Nat) : Int) = 0 from rfl] at z1 z2
        rw [z1, z2]
        cases z with
        | go l => exact ⟨_, _, _, rfl, rfl, by have z3 : l.length ≤ Y.length := z3; omega⟩
        | ret r => exact ⟨_, _, _, rfl, rfl, by have z3 : r.1 = [] := z3; rw [z3]; exact Nat.zero_le _⟩
      · have hne : ((y3 S)[S.size - 1] != 10) = true := by simpa using h10
        rw [hne]
        exact ⟨_, _, _, rfl, rfl, Nat.zero_le _⟩
theorem law_ReadPeer (S : ByteArray) (en : Int) (_ : S.size ≤ maxN) (_ : inK .i64 en) : z0f.f S en = some true := by
  unfold z0f.f
  by_cases hb : (S.size : Int) > 1048576
  · rw [if_pos (by simpa using hb)]
  rw [if_neg (by simpa using hb)]
  obtain ⟨l, n, ok, a, b, hl⟩ := p_ReadPeer S en (by omega)
  have hg : gCh l 1 := ⟨by decide, by omega⟩
  have hge := mCh_ge l 1
  rw [a, b]
  simp only [Option.bind_some, eq_selfCh l (by unfold big; omega), Bool.not_true, Bool.false_eq_true, if_false, bne_self_eq_false, p_markChunkS l 1 hg, p_heldChunkS l 1 hg]
  have hn : decide ((mAll mCh l 1).1 < 0) = false := decide_eq_false (by omega)
  simp only [hn, Bool.false_eq_true, if_false]
end Go.Proofs.YtbeolahmnoeicaaGreatDoor
