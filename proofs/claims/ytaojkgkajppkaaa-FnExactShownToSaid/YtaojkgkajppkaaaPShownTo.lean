/- Plain laws of the printed functions. Conditions as each lemma says. -/
import Derived.Test.YtaojkgkajppkaaaPB
import Derived.Test.YtaojkgkajppkaaaWShownTo2
set_option linter.unusedVariables false
set_option linter.unusedSimpArgs false
namespace Go.Proofs.Ytaojkgkajppkaaa
open Go Go.Proofs.GL
def wZ {α : Type} (_ : α) : Int := 0
def wStr (s : ByteArray) : Int := s.size
def wL {α : Type} (w : α → Int) (p : List α) : Int := p.length + sumW w p
def okZ {α : Type} (_ : α) : Prop := True
def okStr (s : ByteArray) : Prop := s.size ≤ maxN
def okL {α : Type} (ok : α → Prop) (p : List α) : Prop := p.length ≤ maxN ∧ ∀ u ∈ p, ok u
theorem wZ_pos {α : Type} (u : α) : 0 ≤ wZ u := Int.le_refl _
theorem wStr_pos (s : ByteArray) : 0 ≤ wStr s := by unfold wStr; omega
theorem wL_pos {α : Type} {w : α → Int} (h : ∀ u, 0 ≤ w u) (p : List α) : 0 ≤ wL w p := by
  have := sumW_pos (w := w) (us := p) fun u _ => h u
  unfold wL
  omega
theorem wL_len {α : Type} {w : α → Int} (h : ∀ u, 0 ≤ w u) (p : List α) : (p.length : Int) ≤ wL w p := by
  have := sumW_pos (w := w) (us := p) fun u _ => h u
  unfold wL
  omega
theorem wL_big {α : Type} {w : α → Int} (h : ∀ u, 0 ≤ w u) {p : List α} (hp : wL w p ≤ 1000000000) : p.length ≤ big := by
  have := wL_len h p
  unfold big
  omega
theorem wL_cap {α : Type} {w : α → Int} (h : ∀ u, 0 ≤ w u) {p : List α} (hp : wL w p ≤ 1000000000) {n : Nat} (hn : 1000000000 ≤ n) : p.length ≤ n := by
  have := wL_len h p
  omega
theorem wL_mem {α : Type} {w : α → Int} (h : ∀ u, 0 ≤ w u) {p : List α} (hp : wL w p ≤ 1000000000) {u : α} (hu : u ∈ p) : w u ≤ 1000000000 := by
  have := sumW_mem (w := w) (us := p) (fun u _ => h u) u hu
  unfold wL at hp
  omega
theorem sumW_zero {α : Type} {w : α → Int} : ∀ p : List α, (∀ u, w u = 0) → sumW w p = 0
  | [], _ => rfl
  | u :: us, h => by
    have := sumW_zero us h
    have := h u
    unfold sumW
    omega
theorem wL_int (p : List Int) : wL wZ p = p.length := by
  have := sumW_zero (w := wZ) p fun _ => rfl
  unfold wL
  omega
theorem rd_mid {α : Type} (pre : List α) (u : α) (us : List α) : rd? (pre ++ u :: us) (pre.length : Int) = some u := by rw [rd?_at (by simp)]; simp
theorem st_mid {α : Type} (pre : List α) (u v : α) (us : List α) : st? (pre ++ u :: us) (pre.length : Int) v = some (pre ++ v :: us) := by rw [st?_at _ (by simp)]; simp
theorem baT (b : ByteArray) : b.toList = b.data.toList := by
  have key : ∀ (k i : Nat) (r : List UInt8), b.size - i ≤ k → ByteArray.toList.loop b i r = r.reverse ++ b.data.toList.drop i := by
    intro k
    induction k with
    | zero =>
      intro i r h
      rw [ByteArray.toList.loop]
      rw [if_neg (by omega)]
      rw [List.drop_of_length_le (by simp; have : b.data.size = b.size := rfl; omega)]
      simp
    | succ k ih =>
      intro i r h
      rw [ByteArray.toList.loop]
      by_cases hi : i < b.size
      · rw [if_pos hi, ih (i+1) _ (by omega)]
        have hs : i < b.data.toList.length := by simpa using hi
        rw [List.drop_eq_getElem_cons hs]
        have e : b.get! i = b.data.toList[i] := by
          have h2 : i < b.data.size := hi
          show b.data[i]! = _
          rw [getElem!_pos b.data i h2]
          simp
        simp [e]
      · rw [if_neg hi, List.drop_of_length_le (by simp; have : b.data.size = b.size := rfl; omega)]
        simp
  have := key b.size 0 [] (by omega)
  simpa [ByteArray.toList] using this
theorem baInj {a b : ByteArray} : (a.toList == b.toList) = decide (a = b) := by
  rw [baT, baT, Bool.eq_iff_iff]
  simp only [beq_iff_eq, decide_eq_true_eq]
  constructor
  · intro h
    obtain ⟨⟨x⟩⟩ := a
    obtain ⟨⟨y⟩⟩ := b
    simp at h
    rw [h]
  · rintro rfl; rfl
theorem p_eqIntS (p q : List Int) (hp : p.length ≤ big) : z0i.f p q = some (decide (p = q)) :=
  eq_all p q hp (z0i.l1 p q) _ (by omega) fun _ _ _ => rfl
theorem p_toIntS_l (p : List Int) (hp : p.length ≤ big) : ∀ (k i : Nat) (x : List Int), i ≤ p.length → p.length - i < k → x.length = p.length → x.take i = p.take i → z8.l1 p k x i = some p := by
  intro k
  induction k with
  | zero => intro i x _ h; omega
  | succ k ih =>
    intro i x hi hk hl ht
    rw [z8.l1]
    by_cases h : i < p.length
    · rw [if_pos (by simpa using h), rd?_at h]
      simp only [Option.bind_some]
      rw [rd?_at (by omega : i < x.length)]
      simp only [Option.bind_some]
      rw [st?_at p[i] (by omega : i < x.length)]
      simp only [Option.bind_some]
      rw [wrapN i (by unfold big at hp; omega)]
      refine ih (i + 1) _ h (by omega) (by simpa using hl) ?_
      rw [List.take_add_one, List.take_add_one, List.take_set_of_le (Nat.le_refl i), ht]
      simp [h, hl]
    · rw [if_neg (by simpa using h)]
      obtain rfl : i = p.length := by omega
      rw [List.take_length, ← hl, List.take_length] at ht
      rw [ht]
theorem p_toIntS (p : List Int) (hp : p.length ≤ big) : z8.f p = some p := by
  unfold z8.f
  rw [mk?_at (by unfold big at hp; omega)]
  simp only [Option.bind_some]
  have := p_toIntS_l p hp (((p.length : Int) - 0).toNat + 2) 0 (List.replicate p.length 0) (by omega) (by omega) (by simp) (by simp)
  rw [show ((0 : Nat) : Int) = 0 from rfl] at this
  rw [this]
  rfl
theorem p_szIntS (p : List Int) (n : Int) (h0 : 0 ≤ n) (h1 : n ≤ 1048576) (hp : p.length ≤ maxN) : z0.f p n = some (if (p.length : Int) ≤ n then n - p.length else -1) := by
  unfold z0.f
  unfold maxN at hp
  rw [wrapS (by omega) (by omega)]
  by_cases h : (p.length : Int) ≤ n
  · rw [if_neg (by simp; omega), if_pos h]
  · rw [if_pos (by simp; omega), if_neg h]
def marks (k : Int) (n : Nat) : List Int := (List.range n).map fun i : Nat => k + i
theorem marks_len (k : Int) (n : Nat) : (marks k n).length = n := by simp [marks]
theorem marks_get (k : Int) (n i : Nat) (h : i < n) : (marks k n)[i]? = some (k + i) := by simp [marks, h]
theorem p_markIntS_l (p : List Int) (k0 : Int) (h0 : 0 ≤ k0) (h1 : k0 ≤ 1000000000000) (hp : p.length ≤ big) : ∀ (k i : Nat) (x : List Int), i ≤ p.length → p.length - i < k → x.length = p.length → x.take i = (marks k0 p.length).take i → z0q.l1 p k x (k0 + i) i = some (k0 + p.length, marks k0 p.length) := by
  intro k
  induction k with
  | zero => intro i x _ h; omega
  | succ k ih =>
    intro i x hi hk hl ht
    rw [z0q.l1]
    by_cases h : i < p.length
    · rw [if_pos (by simpa using h), rd?_at (by omega : i < x.length)]
      simp only [Option.bind_some]
      rw [st?_at _ (by omega : i < x.length)]
      simp only [Option.bind_some]
      unfold big at hp
      rw [wrapN i (by omega), wrapS (by omega) (by omega), show k0 + (i : Int) + 1 = k0 + ((i + 1 : Nat) : Int) by omega]
      refine ih (i + 1) _ h (by omega) (by simpa using hl) ?_
      rw [List.take_add_one, List.take_add_one, List.take_set_of_le (Nat.le_refl i), ht, marks_get _ _ _ h]
      simp [h, hl]
    · rw [if_neg (by simpa using h)]
      obtain rfl : i = p.length := by omega
      rw [List.take_of_length_le (l := x) (by omega), List.take_of_length_le (l := marks k0 p.length) (by rw [marks_len]; omega)] at ht
      rw [ht]
theorem p_markIntS (p : List Int) (k0 : Int) (h0 : 0 ≤ k0) (h1 : k0 ≤ 1000000000000) (hp : p.length ≤ big) : z0q.f p k0 = some (k0 + p.length, marks k0 p.length) := by
  unfold z0q.f
  have := p_markIntS_l p k0 h0 h1 hp (((p.length : Int) - 0).toNat + 2) 0 p (by omega) (by omega) rfl (by simp)
  rw [show ((0 : Nat) : Int) = 0 from rfl, Int.add_zero] at this
  rw [this]
  rfl
theorem sz_IntS (p : List Int) (hp : okL okZ p) (n : Int) (h0 : 0 ≤ n) (h1 : n ≤ 1048576) : ∃ r, z0.f p n = some r ∧ (r < 0 ∨ 0 ≤ r ∧ r + wL wZ p ≤ n) := by
  rw [p_szIntS p n h0 h1 hp.1, wL_int]
  by_cases h : (p.length : Int) ≤ n
  · rw [if_pos h]; exact ⟨_, rfl, .inr ⟨by omega, by omega⟩⟩
  · rw [if_neg h]; exact ⟨_, rfl, .inl (by decide)⟩
theorem to_IntS (p : List Int) (hp : wL wZ p ≤ 1000000000) : z8.f p = some p := p_toIntS p (wL_big wZ_pos hp)
theorem eq_IntS (p q : List Int) (hp : wL wZ p ≤ 1000000000) : z0i.f p q = some (decide (p = q)) := p_eqIntS p q (wL_big wZ_pos hp)
theorem mk0_IntS (p : List Int) (c : Int) (h0 : 0 ≤ c) (h1 : c + 8 * wL wZ p ≤ 1000000000000) (h2 : wL wZ p ≤ 1000000000) : ∃ (c' : Int) (m : List Int), z0q.f p c = some (c', m) ∧ c ≤ c' ∧ c' ≤ c + 8 * wL wZ p := by
  have hl := wL_int p
  have hb := wL_big wZ_pos h2
  exact ⟨_, _, p_markIntS p c h0 (by omega) hb, by omega, by omega⟩
def w_Buf (u : (Int) × (List (Int)) × (List (Int)) × (Int)) : Int := (wL wZ) u.2.1 + (wL wZ) u.2.2.1
def okw_Buf (u : (Int) × (List (Int)) × (List (Int)) × (Int)) : Prop := (okL okZ) u.2.1 ∧ (okL okZ) u.2.2.1
theorem w_Buf_pos (u : (Int) × (List (Int)) × (List (Int)) × (Int)) : 0 ≤ w_Buf u := by
  unfold w_Buf
  have := (wL_pos wZ_pos) u.2.1
  have := (wL_pos wZ_pos) u.2.2.1
  omega
theorem sz_Buf (u : (Int) × (List (Int)) × (List (Int)) × (Int)) (hu : okw_Buf u) (n : Int) (h0 : 0 ≤ n) (h1 : n ≤ 1048576) : ∃ r, z5.f u.1 u.2.1 u.2.2.1 u.2.2.2 n = some r ∧ (r < 0 ∨ 0 ≤ r ∧ r + w_Buf u ≤ n) := by
  have p0 := (wL_pos wZ_pos) u.2.1
  have p1 := (wL_pos wZ_pos) u.2.2.1
  unfold z5.f w_Buf
  obtain ⟨r0, e0, g0⟩ := sz_IntS u.2.1 hu.1 n (by omega) (by omega)
  rw [e0]
  simp only [Option.bind_some]
  by_cases n0 : r0 < 0
  · rw [if_pos (by simpa using n0)]; exact ⟨-1, rfl, .inl (by decide)⟩
  rw [if_neg (by simpa using n0)]
  replace g0 := g0.resolve_left n0
  obtain ⟨r1, e1, g1⟩ := sz_IntS u.2.2.1 hu.2 r0 (by omega) (by omega)
  rw [e1]
  simp only [Option.bind_some]
  by_cases n1 : r1 < 0
  · rw [if_pos (by simpa using n1)]; exact ⟨-1, rfl, .inl (by decide)⟩
  rw [if_neg (by simpa using n1)]
  replace g1 := g1.resolve_left n1
  exact ⟨_, rfl, .inr ⟨by omega, by omega⟩⟩
theorem to_Buf (u : (Int) × (List (Int)) × (List (Int)) × (Int)) (hu : w_Buf u ≤ 1000000000) : zc.f u.1 u.2.1 u.2.2.1 u.2.2.2 = some u := by
  have p0 := (wL_pos wZ_pos) u.2.1
  have p1 := (wL_pos wZ_pos) u.2.2.1
  unfold zc.f
  unfold w_Buf at hu
  rw [to_IntS u.2.1 (by omega)]
  rw [to_IntS u.2.2.1 (by omega)]
  rfl
theorem eq_Buf (u v : (Int) × (List (Int)) × (List (Int)) × (Int)) (hu : w_Buf u ≤ 1000000000) : z0n.f u.1 u.2.1 u.2.2.1 u.2.2.2 v.1 v.2.1 v.2.2.1 v.2.2.2 = some (decide (u = v)) := by
  have p0 := (wL_pos wZ_pos) u.2.1
  have p1 := (wL_pos wZ_pos) u.2.2.1
  unfold z0n.f
  unfold w_Buf at hu
  rw [eq_IntS u.2.1 v.2.1 (by omega)]
  rw [eq_IntS u.2.2.1 v.2.2.1 (by omega)]
  clear hu p0 p1
  obtain ⟨a0, a1, a2, a3⟩ := u
  obtain ⟨b0, b1, b2, b3⟩ := v
  by_cases h0 : a0 = b0
  case neg => simp [h0]
  by_cases h1 : a1 = b1
  case neg => simp [h0, h1]
  by_cases h2 : a2 = b2
  case neg => simp [h0, h1, h2]
  by_cases h3 : a3 = b3
  case neg => simp [h0, h1, h2, h3]
  simp [h0, h1, h2, h3]
def w_Decoder (u : (Int) × (Int) × (Int) × (ByteArray)) : Int := wStr u.2.2.2
def okw_Decoder (u : (Int) × (Int) × (Int) × (ByteArray)) : Prop := okStr u.2.2.2
theorem w_Decoder_pos (u : (Int) × (Int) × (Int) × (ByteArray)) : 0 ≤ w_Decoder u := by
  unfold w_Decoder
  have := wStr_pos u.2.2.2
  omega
theorem sz_Decoder (u : (Int) × (Int) × (Int) × (ByteArray)) (hu : okw_Decoder u) (n : Int) (h0 : 0 ≤ n) (h1 : n ≤ 1048576) : ∃ r, z3.f u.1 u.2.1 u.2.2.1 u.2.2.2 n = some r ∧ (r < 0 ∨ 0 ≤ r ∧ r + w_Decoder u ≤ n) := by
  have p0 := wStr_pos u.2.2.2
  unfold z3.f w_Decoder
  have hz0 : okStr u.2.2.2 := hu
  unfold okStr maxN at hz0
  rw [wrapS (n := n - (u.2.2.2.size : Int)) (by omega) (by omega)]
  by_cases n0 : n - (u.2.2.2.size : Int) < 0
  · rw [if_pos (by simpa using n0)]; exact ⟨-1, rfl, .inl (by decide)⟩
  rw [if_neg (by simpa using n0)]
  have g0 : wStr u.2.2.2 = u.2.2.2.size := rfl
  exact ⟨_, rfl, .inr ⟨by omega, by omega⟩⟩
theorem to_Decoder (u : (Int) × (Int) × (Int) × (ByteArray)) (hu : w_Decoder u ≤ 1000000000) : zb.f u.1 u.2.1 u.2.2.1 u.2.2.2 = some u := by
  have p0 := wStr_pos u.2.2.2
  unfold zb.f
  unfold w_Decoder at hu
  rfl
theorem eq_Decoder (u v : (Int) × (Int) × (Int) × (ByteArray)) (hu : w_Decoder u ≤ 1000000000) : z0m.f u.1 u.2.1 u.2.2.1 u.2.2.2 v.1 v.2.1 v.2.2.1 v.2.2.2 = some (decide (u = v)) := by
  have p0 := wStr_pos u.2.2.2
  unfold z0m.f
  unfold w_Decoder at hu
  simp only [baInj]
  clear hu p0
  obtain ⟨a0, a1, a2, a3⟩ := u
  obtain ⟨b0, b1, b2, b3⟩ := v
  by_cases h0 : a0 = b0
  case neg => simp [h0]
  by_cases h1 : a1 = b1
  case neg => simp [h0, h1]
  by_cases h2 : a2 = b2
  case neg => simp [h0, h1, h2]
  by_cases h3 : a3 = b3
  case neg => simp [h0, h1, h2, h3]
  simp [h0, h1, h2, h3]
theorem sz_Sess (en sh lo : Int) (hd : ByteArray) (mx : Int) (rs ls : List Int) (go : Int) (eof : Bool) (h1 : okStr hd) (h2 : okL okZ rs) (h3 : okL okZ ls) (n : Int) (a : 0 ≤ n) (b : n ≤ 1048576) : ∃ r, z6.f en sh lo hd mx rs ls go eof n = some r ∧ (r < 0 ∨ 0 ≤ r ∧ r + hd.size + rs.length + ls.length ≤ n) := by
  unfold z6.f
  obtain ⟨r0, e0, g0⟩ := sz_Decoder (en, sh, lo, hd) h1 n a b
  rw [e0]
  simp only [Option.bind_some]
  by_cases n0 : r0 < 0
  · rw [if_pos (by simpa using n0)]; exact ⟨-1, rfl, .inl (by decide)⟩
  rw [if_neg (by simpa using n0)]
  replace g0 := g0.resolve_left n0
  have w0 := w_Decoder_pos (en, sh, lo, hd)
  obtain ⟨r1, e1, g1⟩ := sz_Buf (mx, rs, ls, go) ⟨h2, h3⟩ r0 (by omega) (by omega)
  rw [e1]
  simp only [Option.bind_some]
  by_cases n1 : r1 < 0
  · rw [if_pos (by simpa using n1)]; exact ⟨-1, rfl, .inl (by decide)⟩
  rw [if_neg (by simpa using n1)]
  replace g1 := g1.resolve_left n1
  have k0 : w_Decoder (en, sh, lo, hd) = hd.size := rfl
  have k1 : w_Buf (mx, rs, ls, go) = wL wZ rs + wL wZ ls := rfl
  have k2 := wL_int rs
  have k3 := wL_int ls
  exact ⟨_, rfl, .inr ⟨by omega, by omega⟩⟩
theorem to_Sess (en sh lo : Int) (hd : ByteArray) (mx : Int) (rs ls : List Int) (go : Int) (eof : Bool) (h2 : rs.length ≤ 100000000) (h3 : ls.length ≤ 100000000) : zd.f en sh lo hd mx rs ls go eof = some (en, sh, lo, hd, mx, rs, ls, go, eof) := by
  have k1 : w_Buf (mx, rs, ls, go) = wL wZ rs + wL wZ ls := rfl
  have k2 := wL_int rs
  have k3 := wL_int ls
  unfold zd.f
  have e2 := to_Buf (mx, rs, ls, go) (by omega)
  dsimp only at e2
  rw [e2]
  rfl
theorem eq_Sess (en sh lo : Int) (hd : ByteArray) (mx : Int) (rs ls : List Int) (go : Int) (eof : Bool) (h2 : rs.length ≤ 100000000) (h3 : ls.length ≤ 100000000) : z0o.f en sh lo hd mx rs ls go eof en sh lo hd mx rs ls go eof = some true := by
  have k1 : w_Buf (mx, rs, ls, go) = wL wZ rs + wL wZ ls := rfl
  have k2 := wL_int rs
  have k3 := wL_int ls
  unfold z0o.f
  have e2 := eq_Buf (mx, rs, ls, go) (mx, rs, ls, go) (by omega)
  have e1 : z0m.f en sh lo hd en sh lo hd = some true := by unfold z0m.f; simp
  dsimp only at e2
  rw [e1, e2]
  simp
theorem p_heldIntS_l (n : Nat) (k0 : Int) (h0 : 0 ≤ k0) (h1 : k0 ≤ 1000000000000) (hp : n ≤ big) : ∀ (k i : Nat), i ≤ n → n - i < k → z0w.l1 (marks k0 n) k (k0 + i) i = some (.go (k0 + n)) := by
  intro k
  induction k with
  | zero => intro i _ h; omega
  | succ k ih =>
    intro i hi hk
    rw [z0w.l1, marks_len]
    by_cases h : i < n
    · have hm := rd?_at (xs := marks k0 n) (i := i) (by rw [marks_len]; exact h)
      have hg : (marks k0 n)[i]'(by rw [marks_len]; exact h) = k0 + i := by simp [marks]
      rw [if_pos (by simpa using h), hm, hg]
      simp only [Option.bind_some]
      unfold big at hp
      rw [if_neg (by simp), wrapN i (by omega), wrapS (by omega) (by omega), show k0 + (i : Int) + 1 = k0 + ((i + 1 : Nat) : Int) by omega]
      exact ih (i + 1) h (by omega)
    · rw [if_neg (by simpa using h)]
      obtain rfl : i = n := by omega
      rfl
theorem p_heldIntS (n : Nat) (k0 : Int) (h0 : 0 ≤ k0) (h1 : k0 ≤ 1000000000000) (hp : n ≤ big) : z0w.f (marks k0 n) k0 = some (k0 + n) := by
  unfold z0w.f
  have := p_heldIntS_l n k0 h0 h1 hp ((((marks k0 n).length : Int) - 0).toNat + 2) 0 (by omega) (by rw [marks_len]; omega)
  rw [show ((0 : Nat) : Int) = 0 from rfl, Int.add_zero] at this
  rw [this]
  rfl
theorem p_szBuf (m : Int) (rs ls : List Int) (g : Int) (n : Int) (h0 : 0 ≤ n) (h1 : n ≤ 1048576) (hr : rs.length ≤ maxN) (hl : ls.length ≤ maxN) : ∃ u, z5.f m rs ls g n = some u ∧ (u < 0 ∨ 0 ≤ u ∧ u + (rs.length + ls.length) ≤ n) := by
  unfold z5.f
  rw [p_szIntS rs n h0 h1 hr]
  simp only [Option.bind_some]
  by_cases h : (rs.length : Int) ≤ n
  · rw [if_pos h, if_neg (by simp; omega), p_szIntS ls _ (by omega) (by omega) hl]
    simp only [Option.bind_some]
    by_cases h2 : (ls.length : Int) ≤ n - rs.length
    · rw [if_pos h2, if_neg (by simp; omega)]; exact ⟨_, rfl, .inr ⟨by omega, by omega⟩⟩
    · rw [if_neg h2, if_pos (by decide)]; exact ⟨_, rfl, .inl (by decide)⟩
  · rw [if_neg h, if_pos (by decide)]; exact ⟨_, rfl, .inl (by decide)⟩
theorem p_toBuf (m : Int) (rs ls : List Int) (g : Int) (hr : rs.length ≤ big) (hl : ls.length ≤ big) : zc.f m rs ls g = some (m, rs, ls, g) := by
  unfold zc.f
  rw [p_toIntS rs hr, p_toIntS ls hl]
  rfl
theorem p_eqBuf (m : Int) (rs ls : List Int) (g : Int) (hr : rs.length ≤ big) (hl : ls.length ≤ big) : z0n.f m rs ls g m rs ls g = some true := by
  unfold z0n.f
  rw [p_eqIntS rs rs hr, p_eqIntS ls ls hl]
  simp
theorem p_markBuf (m : Int) (rs ls : List Int) (g : Int) (c : Int) (h0 : 0 ≤ c) (h1 : c + rs.length ≤ 1000000000000) (hr : rs.length ≤ big) (hl : ls.length ≤ big) : z0s.f m rs ls g c = some (c + rs.length + ls.length, marks c rs.length, marks (c + rs.length) ls.length) := by
  unfold z0s.f
  rw [p_markIntS rs c h0 (by omega) hr]
  simp only [Option.bind_some]
  rw [p_markIntS ls _ (by omega) h1 hl]
  rfl
theorem mark_Sess (en sh lo : Int) (hd : ByteArray) (mx : Int) (rs ls : List Int) (go : Int) (eof : Bool) (c : Int) (h0 : 0 ≤ c) (h1 : c + rs.length ≤ 1000000000000) (hr : rs.length ≤ big) (hl : ls.length ≤ big) : z0t.f en sh lo hd mx rs ls go eof c = some (c + rs.length + ls.length, marks c rs.length, marks (c + rs.length) ls.length) := by
  unfold z0t.f
  rw [p_markBuf mx rs ls go c h0 h1 hr hl]
  rfl
def w_Event (u : (Int) × (Int) × (Int) × (Int) × (List (Int))) : Int := (wL wZ) u.2.2.2.2
def okw_Event (u : (Int) × (Int) × (Int) × (Int) × (List (Int))) : Prop := (okL okZ) u.2.2.2.2
theorem w_Event_pos (u : (Int) × (Int) × (Int) × (Int) × (List (Int))) : 0 ≤ w_Event u := by
  unfold w_Event
  have := (wL_pos wZ_pos) u.2.2.2.2
  omega
theorem sz_Event (u : (Int) × (Int) × (Int) × (Int) × (List (Int))) (hu : okw_Event u) (n : Int) (h0 : 0 ≤ n) (h1 : n ≤ 1048576) : ∃ r, z1.f u.1 u.2.1 u.2.2.1 u.2.2.2.1 u.2.2.2.2 n = some r ∧ (r < 0 ∨ 0 ≤ r ∧ r + w_Event u ≤ n) := by
  have p0 := (wL_pos wZ_pos) u.2.2.2.2
  unfold z1.f w_Event
  obtain ⟨r0, e0, g0⟩ := sz_IntS u.2.2.2.2 hu n (by omega) (by omega)
  rw [e0]
  simp only [Option.bind_some]
  by_cases n0 : r0 < 0
  · rw [if_pos (by simpa using n0)]; exact ⟨-1, rfl, .inl (by decide)⟩
  rw [if_neg (by simpa using n0)]
  replace g0 := g0.resolve_left n0
  exact ⟨_, rfl, .inr ⟨by omega, by omega⟩⟩
theorem to_Event (u : (Int) × (Int) × (Int) × (Int) × (List (Int))) (hu : w_Event u ≤ 1000000000) : z9.f u.1 u.2.1 u.2.2.1 u.2.2.2.1 u.2.2.2.2 = some u := by
  have p0 := (wL_pos wZ_pos) u.2.2.2.2
  unfold z9.f
  unfold w_Event at hu
  rw [to_IntS u.2.2.2.2 (by omega)]
  rfl
theorem eq_Event (u v : (Int) × (Int) × (Int) × (Int) × (List (Int))) (hu : w_Event u ≤ 1000000000) : z0k.f u.1 u.2.1 u.2.2.1 u.2.2.2.1 u.2.2.2.2 v.1 v.2.1 v.2.2.1 v.2.2.2.1 v.2.2.2.2 = some (decide (u = v)) := by
  have p0 := (wL_pos wZ_pos) u.2.2.2.2
  unfold z0k.f
  unfold w_Event at hu
  rw [eq_IntS u.2.2.2.2 v.2.2.2.2 (by omega)]
  clear hu p0
  obtain ⟨a0, a1, a2, a3, a4⟩ := u
  obtain ⟨b0, b1, b2, b3, b4⟩ := v
  by_cases h0 : a0 = b0
  case neg => simp [h0]
  by_cases h1 : a1 = b1
  case neg => simp [h0, h1]
  by_cases h2 : a2 = b2
  case neg => simp [h0, h1, h2]
  by_cases h3 : a3 = b3
  case neg => simp [h0, h1, h2, h3]
  by_cases h4 : a4 = b4
  case neg => simp [h0, h1, h2, h3, h4]
  simp [h0, h1, h2, h3, h4]
theorem sz_EventS (p : List ((Int) × (Int) × (Int) × (Int) × (List (Int)))) (hp : okL okw_Event p) (n : Int) (h0 : 0 ≤ n) (h1 : n ≤ 1048576) : ∃ r, z2.f p n = some r ∧ (r < 0 ∨ 0 ≤ r ∧ r + wL w_Event p ≤ n) :=
  sz_all p hp.1 n h0 h1 (fun u n => z1.f u.1 u.2.1 u.2.2.1 u.2.2.2.1 u.2.2.2.2 n) w_Event (fun u hu n a b => sz_Event u (hp.2 u hu) n a b) (fun u _ => w_Event_pos u) (z2.l1 p) (((p.length : Int) - 0).toNat + 2) (by omega) fun _ _ _ => rfl
theorem to_EventS (p : List ((Int) × (Int) × (Int) × (Int) × (List (Int)))) (hp : wL w_Event p ≤ 1000000000) : za.f p = some p :=
  copy_all p (wL_big w_Event_pos hp) (fun u K => (z9.f u.1 u.2.1 u.2.2.1 u.2.2.2.1 u.2.2.2.2).bind fun v => K (v.1, v.2.1, v.2.2.1, v.2.2.2.1, v.2.2.2.2)) (fun u hu K => by rw [to_Event u (wL_mem w_Event_pos hp hu)]; rfl) (za.l1 p) _ (((p.length : Int) - 0).toNat + 2) 2513169434916 (by omega) (wL_cap w_Event_pos hp (by decide)) fun _ _ _ => rfl
theorem eq_EventS (p q : List ((Int) × (Int) × (Int) × (Int) × (List (Int)))) (hp : wL w_Event p ≤ 1000000000) : z0l.f p q = some (decide (p = q)) :=
  eqS_all p q (wL_big w_Event_pos hp) (fun u v => z0k.f u.1 u.2.1 u.2.2.1 u.2.2.2.1 u.2.2.2.2 v.1 v.2.1 v.2.2.1 v.2.2.2.1 v.2.2.2.2) (fun u hu v => eq_Event u v (wL_mem w_Event_pos hp hu)) (z0l.l1 p q) (((p.length : Int) - 0).toNat + 2) (by omega) fun _ _ => rfl
theorem mk0_EventS_l (n : Nat) (hn : n ≤ big) : ∀ (us : List ((Int) × (Int) × (Int) × (Int) × (List (Int)))) (c : Int), 0 ≤ c → c + 8 * wL w_Event us ≤ 1000000000000 → wL w_Event us ≤ 1000000000 → ∃ (c' : Int) (ms : List ((Int) × (Int) × (Int) × (Int) × (List (Int)))), ms.length = us.length ∧ c ≤ c' ∧ c' ≤ c + 8 * wL w_Event us ∧
    (∀ (d pre : List ((Int) × (Int) × (Int) × (Int) × (List (Int)))) (k : Nat), d.length = n → pre.length + us.length = n → us.length < k → z0r.l1 d k (pre ++ us) c pre.length = some (c', pre ++ ms)) := by
  intro us
  induction us with
  | nil =>
    intro c h0 h1 h2
    refine ⟨c, [], rfl, Int.le_refl _, by simp [wL, sumW], fun d pre k hd hl hk => ?_⟩
    · obtain ⟨k, rfl⟩ := Nat.exists_eq_succ_of_ne_zero (show k ≠ 0 by omega)
      rw [z0r.l1, if_neg (by simp at hl ⊢; omega)]
  | cons u us ih =>
    intro c h0 h1 h2
    have hw : wL w_Event (u :: us) = 1 + w_Event u + wL w_Event us := by simp only [wL, sumW, List.length_cons]; omega
    have hu0 := w_Event_pos u
    have hus := wL_pos w_Event_pos us
    rw [hw] at h1 h2
    have key : ∃ (c1 : Int) (m : (Int) × (Int) × (Int) × (Int) × (List (Int))), c ≤ c1 ∧ c1 ≤ c + 8 * (1 + w_Event u) ∧
        (∀ (d pre : List ((Int) × (Int) × (Int) × (Int) × (List (Int)))) (k : Nat), d.length = n → pre.length + us.length + 1 = n → z0r.l1 d (k + 1) (pre ++ u :: us) c pre.length = z0r.l1 d k (pre ++ m :: us) c1 ((pre.length + 1 : Nat) : Int)) := by
      have hwu : w_Event u = (wL wZ) u.2.2.2.2 := rfl
      rw [hwu] at hu0 h1 h2 ⊢
      have := (wL_pos wZ_pos) u.2.2.2.2
      have w0 : IntKind.i64.wrap (c + 1) = c + 1 := wrapS (by omega) (by omega)
      have w1 : IntKind.i64.wrap (c + 1 + 1) = c + 1 + 1 := wrapS (by omega) (by omega)
      have w2 : IntKind.i64.wrap (c + 1 + 1 + 1) = c + 1 + 1 + 1 := wrapS (by omega) (by omega)
      have w3 : IntKind.i64.wrap (c + 1 + 1 + 1 + 1) = c + 1 + 1 + 1 + 1 := wrapS (by omega) (by omega)
      obtain ⟨c4, m4, e4, f4, l4⟩ := mk0_IntS u.2.2.2.2 (c + 1 + 1 + 1 + 1) (by omega) (by omega) (by omega)
      have z4 : ¬ (c4 < 0) := by omega
      refine ⟨c4, (c, c + 1, c + 1 + 1, c + 1 + 1 + 1, m4), by omega, by omega, fun d pre k hd hl => ?_⟩
      · rw [z0r.l1, if_pos (by rw [decide_eq_true_eq]; omega), wrapN pre.length (by unfold big at hn; omega)]
        simp only [rd_mid, st_mid, Option.bind_some, w0, w1, w2, w3, e4]
    obtain ⟨c1, m, k1, k2, k3⟩ := key
    obtain ⟨c', ms, i1, i2, i3, i4⟩ := ih c1 (by omega) (by omega) (by omega)
    refine ⟨c', m :: ms, by simp [i1], by omega, by rw [hw]; omega, fun d pre k hd hl hk => ?_⟩
    · obtain ⟨k, rfl⟩ := Nat.exists_eq_succ_of_ne_zero (show k ≠ 0 by omega)
      simp only [List.length_cons] at hl hk
      rw [k3 d pre k hd (by omega)]
      have := i4 d (pre ++ [m]) k hd (by simp; omega) (by omega)
      simp only [List.length_append, List.length_cons, List.length_nil, Nat.zero_add, List.append_assoc, List.cons_append, List.nil_append] at this
      exact this
theorem mk0_EventS (d : List ((Int) × (Int) × (Int) × (Int) × (List (Int)))) (c : Int) (h0 : 0 ≤ c) (h1 : c + 8 * wL w_Event d ≤ 1000000000000) (h2 : wL w_Event d ≤ 1000000000) : ∃ (c' : Int) (m : List ((Int) × (Int) × (Int) × (Int) × (List (Int)))), z0r.f d c = some (c', m) ∧ c ≤ c' ∧ c' ≤ c + 8 * wL w_Event d := by
  obtain ⟨c', ms, i1, i2, i3, i4⟩ := mk0_EventS_l d.length (wL_big w_Event_pos h2) d c h0 h1 h2
  refine ⟨c', ms, ?_, i2, i3⟩
  · unfold z0r.f
    have := i4 d [] (((d.length : Int) - 0).toNat + 2) rfl (by simp) (by omega)
    rw [List.nil_append, List.nil_append] at this
    rw [show ((([] : List ((Int) × (Int) × (Int) × (Int) × (List (Int)))).length : Nat) : Int) = 0 from rfl] at this
    rw [this]
    rfl
theorem sz_Talk (co : Int) (vs : List Int) (lg : List (Int × Int × Int × Int × List Int)) (en sh lo : Int) (hd : ByteArray) (mx : Int) (rs ls : List Int) (go : Int) (eof : Bool) (g1 : okL okZ vs) (g2 : okL okw_Event lg) (h1 : okStr hd) (h2 : okL okZ rs) (h3 : okL okZ ls) : ∃ r, z7.f co vs lg en sh lo hd mx rs ls go eof 1048576 = some r ∧ (r < 0 ∨ vs.length + wL w_Event lg + hd.size + rs.length + ls.length ≤ 1048576) := by
  unfold z7.f
  obtain ⟨r0, e0, k0⟩ := sz_IntS vs g1 1048576 (by decide) (by decide)
  rw [e0]
  simp only [Option.bind_some]
  by_cases n0 : r0 < 0
  · rw [if_pos (by simpa using n0)]; exact ⟨-1, rfl, .inl (by decide)⟩
  rw [if_neg (by simpa using n0)]
  replace k0 := k0.resolve_left n0
  have w0 := wL_int vs
  obtain ⟨r1, e1, k1⟩ := sz_EventS lg g2 r0 (by omega) (by omega)
  rw [e1]
  simp only [Option.bind_some]
  by_cases n1 : r1 < 0
  · rw [if_pos (by simpa using n1)]; exact ⟨-1, rfl, .inl (by decide)⟩
  rw [if_neg (by simpa using n1)]
  replace k1 := k1.resolve_left n1
  have w1 := wL_pos w_Event_pos lg
  obtain ⟨r2, e2, k2⟩ := sz_Sess en sh lo hd mx rs ls go eof h1 h2 h3 r1 (by omega) (by omega)
  rw [e2]
  simp only [Option.bind_some]
  by_cases n2 : r2 < 0
  · rw [if_pos (by simpa using n2)]; exact ⟨-1, rfl, .inl (by decide)⟩
  rw [if_neg (by simpa using n2)]
  replace k2 := k2.resolve_left n2
  exact ⟨_, rfl, .inr (by omega)⟩
theorem to_Talk (co : Int) (vs : List Int) (lg : List (Int × Int × Int × Int × List Int)) (en sh lo : Int) (hd : ByteArray) (mx : Int) (rs ls : List Int) (go : Int) (eof : Bool) (g1 : vs.length ≤ 100000000) (g2 : wL w_Event lg ≤ 100000000) (h2 : rs.length ≤ 100000000) (h3 : ls.length ≤ 100000000) : ze.f co vs lg en sh lo hd mx rs ls go eof = some (co, vs, lg, en, sh, lo, hd, mx, rs, ls, go, eof) := by
  have k2 := wL_int vs
  unfold ze.f
  rw [to_IntS vs (by omega), to_EventS lg (by omega), to_Sess en sh lo hd mx rs ls go eof h2 h3]
  rfl
theorem eq_Talk (co : Int) (vs : List Int) (lg : List (Int × Int × Int × Int × List Int)) (en sh lo : Int) (hd : ByteArray) (mx : Int) (rs ls : List Int) (go : Int) (eof : Bool) (g1 : vs.length ≤ 100000000) (g2 : wL w_Event lg ≤ 100000000) (h2 : rs.length ≤ 100000000) (h3 : ls.length ≤ 100000000) : z0p.f co vs lg en sh lo hd mx rs ls go eof co vs lg en sh lo hd mx rs ls go eof = some true := by
  have k2 := wL_int vs
  unfold z0p.f
  rw [eq_IntS vs vs (by omega), eq_EventS lg lg (by omega), eq_Sess en sh lo hd mx rs ls go eof h2 h3]
  simp
theorem mark_Talk (co : Int) (vs : List Int) (lg : List (Int × Int × Int × Int × List Int)) (en sh lo : Int) (hd : ByteArray) (mx : Int) (rs ls : List Int) (go : Int) (eof : Bool) (g1 : vs.length ≤ 100000000) (g2 : wL w_Event lg ≤ 100000000) (h2 : rs.length ≤ 100000000) (h3 : ls.length ≤ 100000000) : ∃ r, z0u.f co vs lg en sh lo hd mx rs ls go eof 1 = some r ∧ 0 ≤ r.1 := by
  unfold z0u.f
  rw [p_markIntS vs 1 (by omega) (by omega) (by unfold big; omega)]
  simp only [Option.bind_some]
  have w1 := wL_pos w_Event_pos lg
  obtain ⟨c', m, e1, f1, f2⟩ := mk0_EventS lg (1 + vs.length) (by omega) (by omega) (by omega)
  rw [e1]
  simp only [Option.bind_some]
  rw [mark_Sess en sh lo hd mx rs ls go eof c' (by omega) (by omega) (by unfold big; omega) (by unfold big; omega)]
  exact ⟨_, rfl, by show 0 ≤ c' + rs.length + ls.length; omega⟩
theorem p_l1In (a b c : Int) : zf.f a b c = some (decide (b ≤ a) && decide (a ≤ c)) := by
  unfold zf.f
  by_cases h : b ≤ a
  · rw [if_pos (by simpa using h)]; simp [h]
  · rw [if_neg (by simpa using h)]; simp [h]
theorem p_inRange (a b c : Int) : zu.f a b c = some (decide (b ≤ a) && decide (a ≤ c)) := by
  unfold zu.f
  by_cases h : b ≤ a
  · rw [if_pos (by simpa using h)]; simp [h]
  · rw [if_neg (by simpa using h)]; simp [h]
def okRune (r : Int) : Bool := decide (0 ≤ r) && decide (r ≤ 1114111) && !(decide (55296 ≤ r) && decide (r ≤ 57343))
theorem p_specRune (r : Int) : zi.f r = some (okRune r) := by
  unfold zi.f okRune
  simp only [p_l1In, Option.bind_some]
  cases (decide (0 ≤ r) && decide (r ≤ 1114111)) <;> rfl
theorem p_implRune (r : Int) : z02.f r = some (okRune r) := by
  unfold z02.f okRune
  simp only [p_inRange, Option.bind_some]
  cases (decide (0 ≤ r) && decide (r ≤ 1114111)) <;> rfl
theorem p_allRunes (p : List Int) (hp : p.length ≤ big) : zj.f p = some (p.all okRune && decide (p.length ≤ 1000)) := by
  unfold zj.f
  have := all_loop p hp (fun u => !okRune u) false (zj.l1 p) (fun k i => by rw [zj.l1]; simp only [p_specRune, Option.bind_some]) (((p.length : Int) - 0).toNat + 2) 0 (by omega) (by omega)
  rw [show ((0 : Nat) : Int) = 0 from rfl] at this
  rw [this, List.drop_zero]
  have e : p.any (fun u => !okRune u) = !p.all okRune := by rw [List.all_eq_not_any_not]; simp
  rw [e]
  cases h : p.all okRune <;> simp
  omega
theorem mul_le160 {w h : Int} (h1 : 1 ≤ w) (h2 : w ≤ 20) (h3 : 1 ≤ h) (h4 : h ≤ 8) : 1 ≤ w * h ∧ w * h ≤ 160 := by
  have a := Int.mul_le_mul h2 h4 (by omega) (by omega)
  have b := Int.mul_le_mul h1 h3 (by omega) (by omega)
  omega
theorem p_l1All (p : List Int) (a b : Int) (hp : p.length ≤ big) : zk.f p a b = some (p.all fun u => decide (a ≤ u) && decide (u ≤ b)) := by
  unfold zk.f
  have := all_loop p hp (fun u => !(decide (a ≤ u) && decide (u ≤ b))) false (zk.l1 p a b) (fun k i => by rw [zk.l1]; simp only [p_l1In, Option.bind_some]) (((p.length : Int) - 0).toNat + 2) 0 (by omega) (by omega)
  rw [show ((0 : Nat) : Int) = 0 from rfl] at this
  rw [this, List.drop_zero]
  have e : p.any (fun u => !(decide (a ≤ u) && decide (u ≤ b))) = !p.all fun u => decide (a ≤ u) && decide (u ≤ b) := by rw [List.all_eq_not_any_not]; simp
  rw [e]
  cases h : p.all fun u => decide (a ≤ u) && decide (u ≤ b) <;> simp
def okCell (r : Int) : Bool := okRune r && decide (32 ≤ r)
theorem p_goodCells (p : List Int) (hp : p.length ≤ big) : z05.f p = some (!p.all okCell) := by
  unfold z05.f z04.f
  have e1 : ∀ u, z03.f u = some (!okCell u) := fun u => by
    unfold z03.f okCell
    simp only [p_implRune, Option.bind_some]
    by_cases h : u < 32
    · rw [if_pos (by simpa using h)]; simp; exact .inr h
    · rw [if_neg (by simpa using h)]
      have : decide (32 ≤ u) = true := by simp; omega
      simp [this]
  have := scan_loop p hp (fun u => !okCell u) (fun i _ => i) (z04.l1 p) (fun k i => by rw [z04.l1]; simp only [e1, Option.bind_some]) (((p.length : Int) - 0).toNat + 2) 0 (by omega) (by omega)
  rw [show ((0 : Nat) : Int) = 0 from rfl] at this
  rw [this, List.drop_zero]
  have e : p.all okCell = !(p.any fun u => !okCell u) := List.all_eq_not_any_not
  rw [e, Bool.not_not]
  cases hf : p.findIdx? (fun u => !okCell u) with
  | none =>
    have : p.any (fun u => !okCell u) = false := by
      rw [List.findIdx?_eq_none_iff] at hf
      simpa using hf
    rw [this]; simp
  | some j =>
    obtain ⟨hj, h1, h2⟩ := List.findIdx?_eq_some_iff_getElem.1 hf
    have : p.any (fun u => !okCell u) = true := List.any_eq_true.2 ⟨_, List.getElem_mem hj, h1⟩
    rw [this]
    simp [hj]
/-- A good screen. -/
def okScreen (w h : Int) (cs : List Int) (x y : Int) : Bool := decide (1 ≤ w) && decide (w ≤ 20) && (decide (1 ≤ h) && decide (h ≤ 8)) && (decide (0 ≤ x) && decide (x ≤ w)) && (decide (0 ≤ y) && decide (y < h)) && decide ((cs.length : Int) = w * h) && cs.all okCell
theorem p_specScreen (w h : Int) (cs : List Int) (x y : Int) (hp : cs.length ≤ big) : zl.f w h cs x y = some (okScreen w h cs x y) := by
  unfold zl.f okScreen
  simp only [p_l1In, Option.bind_some, p_allRunes cs hp, p_l1All cs _ _ hp]
  by_cases h1 : 1 ≤ w ∧ w ≤ 20
  · by_cases h2 : 1 ≤ h ∧ h ≤ 8
    · obtain ⟨m1, m2⟩ := mul_le160 h1.1 h1.2 h2.1 h2.2
      rw [wrapS (n := h - 1) (by omega) (by omega), wrapS (n := w * h) (by omega) (by omega)]
      by_cases h3 : 0 ≤ x ∧ x ≤ w
      · by_cases h4 : 0 ≤ y ∧ y < h
        · by_cases h5 : (cs.length : Int) = w * h
          · have h6 : cs.length ≤ 1000 := by omega
            have h7 : y ≤ h - 1 := by omega
            have e : (cs.all okRune && cs.all fun u => decide (32 ≤ u) && decide (u ≤ 1114111)) = cs.all okCell := by
              rw [Bool.eq_iff_iff]
              simp only [Bool.and_eq_true, List.all_eq_true, okCell, okRune, decide_eq_true_eq, Bool.not_eq_true', Bool.and_eq_false_iff, decide_eq_false_iff_not]
              constructor
              · rintro ⟨a, b⟩ u hu
                exact ⟨a u hu, (b u hu).1⟩
              · intro a
                exact ⟨fun u hu => (a u hu).1, fun u hu => ⟨(a u hu).2, (a u hu).1.1.2⟩⟩
            rw [← e]
            generalize cs.all okRune = a1
            generalize (cs.all fun u => decide (32 ≤ u) && decide (u ≤ 1114111)) = a2
            simp [h1, h2, h3, h4, h5, h6, h7]
            cases a1 <;> simp
          · have h7 : ¬ (h - 1 < y) := by omega
            simp [h1, h2, h3, h4, h5, h7]
        · have h7 : ¬ (0 ≤ y ∧ y ≤ h - 1) := by omega
          have e1 : (decide (0 ≤ y) && decide (y ≤ h - 1)) = false := by simpa using h7
          have e2 : (decide (0 ≤ y) && decide (y < h)) = false := by simpa using h4
          simp [h1, h2, h3, e1, e2]
      · have e1 : (decide (0 ≤ x) && decide (x ≤ w)) = false := by simpa using h3
        simp [h1, h2, e1]
    · have e1 : (decide (1 ≤ h) && decide (h ≤ 8)) = false := by simpa using h2
      simp [h1, e1]
  · have e1 : (decide (1 ≤ w) && decide (w ≤ 20)) = false := by simpa using h1
    simp [e1]
theorem p_implScreen (w h : Int) (cs : List Int) (x y : Int) (hp : cs.length ≤ big) : z06.f w h cs x y = some (okScreen w h cs x y) := by
  unfold z06.f okScreen z01.f
  simp only [p_inRange, Option.bind_some, p_goodCells cs hp]
  by_cases h1 : 1 ≤ w ∧ w ≤ 20
  · by_cases h2 : 1 ≤ h ∧ h ≤ 8
    · obtain ⟨m1, m2⟩ := mul_le160 h1.1 h1.2 h2.1 h2.2
      rw [wrapS (n := h - 1) (by omega) (by omega), wrapS (n := w * h) (by omega) (by omega)]
      by_cases h3 : 0 ≤ x ∧ x ≤ w
      · by_cases h4 : 0 ≤ y ∧ y < h
        · have h7 : y ≤ h - 1 := by omega
          by_cases h5 : (cs.length : Int) = w * h
          · simp [h1, h2, h3, h4, h5, h7]
          · simp [h1, h2, h3, h4, h5]
        · have h7 : ¬ (0 ≤ y ∧ y ≤ h - 1) := by omega
          have e1 : (decide (0 ≤ y) && decide (y ≤ h - 1)) = false := by simpa using h7
          have e2 : (decide (0 ≤ y) && decide (y < h)) = false := by simpa using h4
          simp [h1, h2, h3, e1, e2]
      · have e1 : (decide (0 ≤ x) && decide (x ≤ w)) = false := by simpa using h3
        simp [h1, h2, e1]
    · have e1 : (decide (1 ≤ h) && decide (h ≤ 8)) = false := by simpa using h2
      simp [h1, e1]
  · have e1 : (decide (1 ≤ w) && decide (w ≤ 20)) = false := by simpa using h1
    simp [e1]
theorem p_repeat : ∀ n : Nat, n < 161 → zy.f [32] (n : Int) = some (List.replicate n 32) := by decide +kernel
theorem p_own (x : List Int) (hx : x.length ≤ big) : zo.f x = some x := by
  unfold zo.f
  unfold big at hx
  rw [app?_at (by simpa using hx)]
  rfl
theorem p_clone (x : List Int) (hx : x.length ≤ big) : z0b.f x = some x := by
  unfold z0b.f
  unfold big at hx
  rw [app?_at (by simpa using hx)]
  rfl
theorem cut0 {x : List Int} {n : Nat} (h : n ≤ x.length) : cut? x 0 (n : Int) = some (x.take n) := by
  have := cut?_at (xs := x) (a := 0) (b := n) (by omega) h
  rw [show ((0 : Nat) : Int) = 0 from rfl] at this
  simpa using this
theorem cutE {x : List Int} {n : Nat} (h : n ≤ x.length) : cut? x (n : Int) (x.length : Int) = some (x.drop n) := by
  have := cut?_at (xs := x) (a := n) (b := x.length) h (by omega)
  simpa using this
theorem p_grow (n : Nat) (hn : n ≤ big) : z0c.f (n : Int) = some [] := by
  unfold z0c.f
  unfold big at hn
  have e0 : IntKind.i64.wrap (0 - 0) = 0 := by decide
  have e1 : IntKind.i64.wrap ((n : Int) - 0) = n := by rw [Int.sub_zero]; exact wrapS (by omega) (by omega)
  rw [if_neg (by simp), e0, e1]
  by_cases h : 0 < n
  · rw [if_pos (by simpa using h), mk?_at (by omega)]
    have c1 : cut? ([] : List Int) 0 0 = some [] := cut0 (x := []) (n := 0) (by simp)
    have c2 : cut? (List.replicate n (0 : Int)) 0 0 = some [] := by simpa using cut0 (x := List.replicate n (0 : Int)) (n := 0) (by simp)
    rw [c1]
    simp only [Option.bind_some]
    rw [c2]
    rfl
  · rw [if_neg (by simpa using h)]
    rfl
theorem p_concat (a b : List Int) (h : a.length + b.length ≤ big) : z0d.f [a, b] = some (a ++ b) := by
  have hh : a.length + b.length ≤ big := h
  unfold big at h
  have l1 : z0d.l1 [a, b] 4 0 0 = some (((a.length + b.length : Nat)) : Int) := by
    rw [z0d.l1]
    have w1 : IntKind.i64.wrap (0 + (a.length : Int)) = a.length := by rw [Int.zero_add]; exact wrapS (by omega) (by omega)
    have w2 : IntKind.i64.wrap ((a.length : Int) + (b.length : Int)) = ((a.length + b.length : Nat) : Int) := by rw [wrapS (by omega) (by omega)]; omega
    have i1 : IntKind.i64.wrap (0 + 1) = 1 := by decide
    have i2 : IntKind.i64.wrap (1 + 1) = 2 := by decide
    have r0 : rd? [a, b] 0 = some a := rd?_at (xs := [a, b]) (i := 0) (by simp)
    have r1 : rd? [a, b] 1 = some b := rd?_at (xs := [a, b]) (i := 1) (by simp)
    rw [if_pos (by simp), r0]
    simp only [Option.bind_some]
    rw [w1, if_neg (by simp), i1, z0d.l1, if_pos (by simp), r1]
    simp only [Option.bind_some]
    rw [w2, if_neg (by simp; omega), i2, z0d.l1, if_neg (by simp)]
  have l2 : z0d.l2 [a, b] 4 [] 0 = some (a ++ b) := by
    have i1 : IntKind.i64.wrap (0 + 1) = 1 := by decide
    have i2 : IntKind.i64.wrap (1 + 1) = 2 := by decide
    have r0 : rd? [a, b] 0 = some a := rd?_at (xs := [a, b]) (i := 0) (by simp)
    have r1 : rd? [a, b] 1 = some b := rd?_at (xs := [a, b]) (i := 1) (by simp)
    rw [z0d.l2, if_pos (by simp), r0]
    simp only [Option.bind_some]
    rw [app?_at (by simp; omega)]
    simp only [Option.bind_some, List.nil_append]
    rw [i1, z0d.l2, if_pos (by simp), r1]
    simp only [Option.bind_some]
    rw [app?_at (by omega)]
    simp only [Option.bind_some]
    rw [i2, z0d.l2, if_neg (by simp)]
  unfold z0d.f
  show (z0d.l1 [a, b] 4 0 0).bind _ = _
  rw [l1]
  simp only [Option.bind_some]
  rw [p_grow _ hh]
  simp only [Option.bind_some]
  show (z0d.l2 [a, b] 4 [] 0).bind _ = _
  rw [l2]
  rfl
theorem p_l16New_l2 (w h : Int) (n : Nat) (hn : w * h = n) (hb : n ≤ 1000) : ∀ (k i : Nat), i ≤ n → n - i < k → zg.l1 w h k i (List.replicate i 32) = some (List.replicate n 32) := by
  intro k
  induction k with
  | zero => intro i _ h; omega
  | succ k ih =>
    intro i hi hk
    rw [zg.l1, hn, wrapS (by omega) (by omega)]
    by_cases h1 : i < n
    · rw [if_pos (by simpa using h1), app?_at (by simp; omega)]
      simp only [Option.bind_some]
      rw [wrapN i (by omega), show List.replicate i (32 : Int) ++ [32] = List.replicate (i + 1) 32 by rw [List.replicate_succ']]
      exact ih (i + 1) h1 (by omega)
    · rw [if_neg (by simpa using h1)]
      obtain rfl : i = n := by omega
      rfl
theorem p_newScr (w h : Int) (n : Nat) (hn : w * h = n) (hb : n ≤ 160) : zz.f w h = some (w, h, List.replicate n 32, 0, 0) ∧ zg.f w h = some (w, h, List.replicate n 32, 0, 0) := by
  have e1 := p_repeat n (by omega)
  have e2 := p_l16New_l2 w h n hn (by omega) (((n : Int) - 0).toNat + 2) 0 (by omega) (by omega)
  rw [show ((0 : Nat) : Int) = 0 from rfl, show List.replicate 0 (32 : Int) = [] from rfl] at e2
  constructor
  · unfold zz.f
    rw [hn, wrapS (by omega) (by omega), e1]
    rfl
  · unfold zg.f
    rw [hn, wrapS (by omega) (by omega), e2]
    rfl
structure Inv (w h : Int) (cs : List Int) (x y : Int) : Prop where
  w0 : 1 ≤ w
  w1 : w ≤ 20
  h0 : 1 ≤ h
  h1 : h ≤ 8
  x0 : 0 ≤ x
  x1 : x ≤ w
  y0 : 0 ≤ y
  y1 : y < h
  c : (cs.length : Int) = w * h
  g : cs.all okCell = true
theorem Inv.len {w h : Int} {cs : List Int} {x y : Int} (I : Inv w h cs x y) : cs.length ≤ 160 := by
  obtain ⟨m1, m2⟩ := mul_le160 I.w0 I.w1 I.h0 I.h1
  have := I.c
  omega
theorem p_down_l (n : Nat) (hb : n ≤ 1000) (base : List Int) (hB : base.length ≤ 1000) : ∀ (k i : Nat), i ≤ n → n - i < k → zp.l1 (n : Int) k i (base ++ List.replicate i 32) = some (base ++ List.replicate n 32) := by
  intro k
  induction k with
  | zero => intro i _ h; omega
  | succ k ih =>
    intro i hi hk
    rw [zp.l1]
    by_cases h1 : i < n
    · rw [if_pos (by simpa using h1), app?_at (by simp; omega)]
      simp only [Option.bind_some]
      rw [wrapN i (by omega), List.append_assoc, show List.replicate i (32 : Int) ++ [32] = List.replicate (i + 1) 32 by rw [List.replicate_succ']]
      exact ih (i + 1) h1 (by omega)
    · rw [if_neg (by simpa using h1)]
      obtain rfl : i = n := by omega
      rfl
theorem all_blank (n : Nat) : (List.replicate n (32 : Int)).all okCell = true := List.all_eq_true.2 fun u hu => by
  rw [(List.mem_replicate.1 hu).2]; decide
theorem p_down {w h : Int} {cs : List Int} {x y : Int} (I : Inv w h cs x y) : ∃ cs' y', z0e.f w h cs x y = some (cs', 0, y') ∧ zp.f w h cs x y = some (w, h, cs', 0, y') ∧ Inv w h cs' 0 y' := by
  have hl := I.len
  obtain ⟨n, hn⟩ := Int.eq_ofNat_of_zero_le (show 0 ≤ w by have := I.w0; omega)
  have i1 := I.w0; have i2 := I.w1; have i3 := I.h0; have i4 := I.h1; have i5 := I.y0; have i6 := I.y1
  unfold z0e.f zp.f
  rw [wrapS (n := h - 1) (by omega) (by omega)]
  by_cases hy : y < h - 1
  · refine ⟨cs, y + 1, ?_, ?_, ⟨i1, i2, i3, i4, by omega, by omega, by omega, by omega, I.c, I.g⟩⟩
    · rw [if_pos (by simpa using hy), wrapS (by omega) (by omega)]
    · rw [if_pos (by simpa using hy), wrapS (by omega) (by omega)]
  · have hnc : n ≤ cs.length := by
      have h1 := I.c
      have : w * 1 ≤ w * h := Int.mul_le_mul_of_nonneg_left i3 (by omega)
      omega
    have e2 := p_down_l n (by omega) (cs.drop n) (by simp; omega) (((n : Int) - 0).toNat + 2) 0 (by omega) (by omega)
    rw [show ((0 : Nat) : Int) = 0 from rfl, show List.replicate 0 (32 : Int) = [] from rfl, List.append_nil] at e2
    refine ⟨cs.drop n ++ List.replicate n 32, y, ?_, ?_, ⟨i1, i2, i3, i4, by omega, by omega, by omega, by omega, ?_, ?_⟩⟩
    · rw [if_neg (by simpa using hy), hn, cutE hnc]
      simp only [Option.bind_some]
      rw [p_repeat n (by omega)]
      simp only [Option.bind_some]
      rw [p_concat _ _ (by unfold big; simp; omega)]
      rfl
    · rw [if_neg (by simpa using hy), hn, cutE hnc]
      simp only [Option.bind_some]
      rw [p_own _ (by unfold big; simp; omega)]
      simp only [Option.bind_some]
      rw [e2]
      rfl
    · have := I.c
      rw [List.length_append, List.length_drop, List.length_replicate]
      omega
    · rw [List.all_append, Bool.and_eq_true]
      exact ⟨List.all_eq_true.2 fun u hu => List.all_eq_true.1 I.g u (List.mem_of_mem_drop hu), all_blank n⟩
theorem p_quo4 (x : Int) (h0 : 0 ≤ x) (h1 : x ≤ 20) : quo? .i64 x 4 = some (x / 4) := by
  obtain ⟨n, rfl⟩ := Int.eq_ofNat_of_zero_le h0
  have : ∀ n : Nat, n < 21 → quo? .i64 (n : Int) 4 = some ((n : Int) / 4) := by decide +kernel
  exact this n (by omega)
theorem p_write {w h : Int} {cs : List Int} {x y : Int} (I : Inv w h cs x y) (hx : x < w) (r : Int) (hr : okCell r = true) : ∃ u cs', rd? cs (IntKind.i64.wrap (IntKind.i64.wrap (y * w) + x)) = some u ∧ st? cs (IntKind.i64.wrap (IntKind.i64.wrap (y * w) + x)) r = some cs' ∧ IntKind.i64.wrap (x + 1) = x + 1 ∧ Inv w h cs' (x + 1) y := by
  have hl := I.len
  have i1 := I.w0; have i2 := I.w1; have i3 := I.h0; have i4 := I.h1; have i5 := I.y0; have i6 := I.y1; have i7 := I.x0; have i8 := I.c
  have g1 : y * w ≤ (h - 1) * w := Int.mul_le_mul_of_nonneg_right (by omega) (by omega)
  have g2 : (h - 1) * w = w * h - w := by rw [Int.sub_mul, Int.one_mul, Int.mul_comm]
  have g3 : 0 ≤ y * w := Int.mul_nonneg i5 (by omega)
  rw [wrapS (n := y * w) (by omega) (by omega), wrapS (n := y * w + x) (by omega) (by omega), wrapS (n := x + 1) (by omega) (by omega)]
  obtain ⟨j, hj⟩ := Int.eq_ofNat_of_zero_le (show 0 ≤ y * w + x by omega)
  have hjl : j < cs.length := by omega
  rw [hj]
  refine ⟨_, _, rd?_at hjl, st?_at r hjl, rfl, ⟨i1, i2, i3, i4, by omega, by omega, i5, i6, by simpa using i8, List.all_eq_true.2 fun u hu => ?_⟩⟩
  rcases List.mem_or_eq_of_mem_set hu with hu | rfl
  · exact List.all_eq_true.1 I.g u hu
  · exact hr
theorem p_leastB (a b : Int) : zn.f a b = some (min b a) := by
  unfold zn.f
  by_cases h : a < b
  · rw [if_pos (by simpa using h), Int.min_eq_right (by omega)]
  · rw [if_neg (by simpa using h), Int.min_eq_left (by omega)]
theorem p_mostB (a b : Int) : zm.f a b = some (max b a) := by
  unfold zm.f
  by_cases h : a > b
  · rw [if_pos (by simpa using h), Int.max_eq_right (by omega)]
  · rw [if_neg (by simpa using h), Int.max_eq_left (by omega)]
theorem p_put {w h : Int} {cs : List Int} {x y : Int} (I : Inv w h cs x y) (r : Int) (hr : okRune r = true) : ∃ cs' x' y', z0f.f w h cs x y r = some (w, h, cs', x', y') ∧ zq.f w h cs x y r = some (w, h, cs', x', y') ∧ Inv w h cs' x' y' := by
  have hl := I.len
  have i1 := I.w0; have i2 := I.w1; have i3 := I.h0; have i4 := I.h1; have i5 := I.y0; have i6 := I.y1; have i7 := I.x0; have i8 := I.c; have i9 := I.x1; have i10 := I.g
  unfold z0f.f zq.f
  by_cases r8 : r = 8
  · subst r8
    refine ⟨cs, max (x - 1) 0, y, ?_, ?_, ⟨i1, i2, i3, i4, by omega, by omega, i5, i6, i8, i10⟩⟩
    · rw [if_pos (by decide), wrapS (by omega) (by omega)]
    · rw [if_pos (by decide), wrapS (by omega) (by omega), p_mostB]
      rfl
  have n8 : ¬ ((r == 8) = true) := by simpa using r8
  rw [if_neg n8, if_neg n8]
  by_cases r9 : r = 9
  · subst r9
    refine ⟨cs, min ((x / 4 + 1) * 4) w, y, ?_, ?_, ⟨i1, i2, i3, i4, by omega, by omega, i5, i6, i8, i10⟩⟩
    · rw [if_pos (by decide), p_quo4 x i7 (by omega)]
      simp only [Option.bind_some]
      rw [wrapS (n := x / 4 + 1) (by omega) (by omega), wrapS (by omega) (by omega)]
    · rw [if_pos (by decide), p_quo4 x i7 (by omega)]
      simp only [Option.bind_some]
      rw [wrapS (n := x / 4 * 4) (by omega) (by omega), wrapS (n := x / 4 * 4 + 4) (by omega) (by omega), p_leastB, show x / 4 * 4 + 4 = (x / 4 + 1) * 4 by omega]
      rfl
  have n9 : ¬ ((r == 9) = true) := by simpa using r9
  rw [if_neg n9, if_neg n9]
  by_cases r10 : r = 10
  · subst r10
    obtain ⟨cs', y', d1, d2, d3⟩ := p_down I
    refine ⟨cs', 0, y', ?_, ?_, d3⟩
    · rw [if_pos (by decide), d1]
      rfl
    · rw [if_pos (by decide), d2]
      rfl
  have n10 : ¬ ((r == 10) = true) := by simpa using r10
  rw [if_neg n10, if_neg n10]
  by_cases r12 : r = 12
  · subst r12
    obtain ⟨d1, d2⟩ := p_newScr w h cs.length i8.symm hl
    refine ⟨List.replicate cs.length 32, 0, 0, ?_, ?_, ⟨i1, i2, i3, i4, by omega, by omega, by omega, by omega, by simpa using i8, all_blank _⟩⟩
    · rw [if_pos (by decide), d1]
      rfl
    · rw [if_pos (by decide), d2]
      rfl
  have n12 : ¬ ((r == 12) = true) := by simpa using r12
  rw [if_neg n12, if_neg n12]
  by_cases r13 : r = 13
  · subst r13
    refine ⟨cs, 0, y, ?_, ?_, ⟨i1, i2, i3, i4, by omega, by omega, i5, i6, i8, i10⟩⟩
    · rw [if_pos (by decide)]
    · rw [if_pos (by decide)]
      rfl
  have n13 : ¬ ((r == 13) = true) := by simpa using r13
  rw [if_neg n13, if_neg n13]
  by_cases r32 : r ≥ 32
  · have p32 : decide (r ≥ 32) = true := by simpa using r32
    rw [if_pos p32, if_pos p32]
    have hc : okCell r = true := by unfold okCell; rw [hr]; simp; omega
    by_cases hx : x = w
    · obtain ⟨cs', y', d1, d2, d3⟩ := p_down I
      obtain ⟨u, cs2, w1, w2, w3, w4⟩ := p_write d3 (by omega) r hc
      have hl2 := d3.len
      refine ⟨cs2, 0 + 1, y', ?_, ?_, w4⟩
      · rw [if_pos (by simpa using hx), d1]
        simp only [Option.bind_some]
        rw [w1]
        simp only [Option.bind_some]
        rw [w2, w3]
        rfl
      · rw [if_pos (by simpa using hx), d2]
        simp only [Option.bind_some]
        rw [p_own cs' (by unfold big; omega)]
        simp only [Option.bind_some]
        rw [w1]
        simp only [Option.bind_some]
        rw [w2, w3]
        rfl
    · obtain ⟨u, cs2, w1, w2, w3, w4⟩ := p_write I (by omega) r hc
      refine ⟨cs2, x + 1, y, ?_, ?_, w4⟩
      · rw [if_neg (by simpa using hx)]
        simp only [Option.bind_some]
        rw [w1]
        simp only [Option.bind_some]
        rw [w2, w3]
        rfl
      · rw [if_neg (by simpa using hx)]
        simp only [Option.bind_some]
        rw [p_own cs (by unfold big; omega)]
        simp only [Option.bind_some]
        rw [w1]
        simp only [Option.bind_some]
        rw [w2, w3]
        rfl
  · have p32 : ¬ (decide (r ≥ 32) = true) := by simpa using r32
    rw [if_neg p32, if_neg p32]
    exact ⟨cs, x, y, rfl, rfl, I⟩
theorem okScreen_inv {w h : Int} {cs : List Int} {x y : Int} (hs : okScreen w h cs x y = true) : Inv w h cs x y := by
  simp only [okScreen, Bool.and_eq_true, decide_eq_true_eq] at hs
  exact ⟨by omega, by omega, by omega, by omega, by omega, by omega, by omega, by omega, by omega, hs.2⟩
theorem p_areRunes (p : List Int) (n : Int) (hp : p.length ≤ big) : z0a.f p n = some (decide ((p.length : Int) ≤ n) && p.all okRune) := by
  unfold z0a.f z09.f z08.f
  by_cases h : (p.length : Int) ≤ n
  · rw [if_pos (by simpa using h)]
    have := scan_loop p hp (fun u => !okRune u) (fun i _ => i) (z08.l1 p) (fun k i => by rw [z08.l1]; simp only [z07.f, p_implRune, Option.bind_some]) (((p.length : Int) - 0).toNat + 2) 0 (by omega) (by omega)
    rw [show ((0 : Nat) : Int) = 0 from rfl] at this
    rw [this, List.drop_zero]
    have e : p.all okRune = !(p.any fun u => !okRune u) := List.all_eq_not_any_not
    rw [e]
    cases hf : p.findIdx? (fun u => !okRune u) with
    | none =>
      have : p.any (fun u => !okRune u) = false := by
        rw [List.findIdx?_eq_none_iff] at hf
        simpa using hf
      rw [this]; simp [h]
    | some j =>
      obtain ⟨hj, h1, h2⟩ := List.findIdx?_eq_some_iff_getElem.1 hf
      have : p.any (fun u => !okRune u) = true := List.any_eq_true.2 ⟨_, List.getElem_mem hj, h1⟩
      rw [this]
      simp [hj]
  · rw [if_neg (by simpa using h)]
    simp [h]
theorem p_eqScreen (w h : Int) (cs : List Int) (x y : Int) (hp : cs.length ≤ big) : z0j.f w h cs x y w h cs x y = some true := by
  unfold z0j.f
  rw [p_eqIntS cs cs hp]
  simp
theorem p_puts (p : List Int) (hp : p.length ≤ big) {w h : Int} : ∀ (k i : Nat) (cs : List Int) (x y : Int), p.all okRune = true → Inv w h cs x y → i ≤ p.length → p.length - i < k → ∃ cs' x' y', z0g.l1 p k i w h cs x y = some (w, h, cs', x', y') ∧ zr.l1 p k i w h cs x y = some (w, h, cs', x', y') ∧ Inv w h cs' x' y' := by
  intro k
  induction k with
  | zero => intro i _ _ _ _ _ _ h; omega
  | succ k ih =>
    intro i cs x y hg I hi hk
    rw [z0g.l1, zr.l1]
    by_cases h : i < p.length
    · obtain ⟨cs1, x1, y1, d1, d2, d3⟩ := p_put I p[i] (List.all_eq_true.1 hg _ (List.getElem_mem h))
      obtain ⟨cs2, x2, y2, e1, e2, e3⟩ := ih (i + 1) cs1 x1 y1 hg d3 h (by omega)
      refine ⟨cs2, x2, y2, ?_, ?_, e3⟩
      · rw [if_pos (by simpa using h), rd?_at h]
        simp only [Option.bind_some]
        rw [d1]
        simp only [Option.bind_some]
        rw [wrapN i (by unfold big at hp; omega)]
        exact e1
      · rw [if_pos (by simpa using h), rd?_at h]
        simp only [Option.bind_some]
        rw [d2]
        simp only [Option.bind_some]
        rw [wrapN i (by unfold big at hp; omega)]
        exact e2
    · refine ⟨cs, x, y, ?_, ?_, I⟩
      · rw [if_neg (by simpa using h)]
      · rw [if_neg (by simpa using h)]
theorem p_PutRunes (w h : Int) (cs : List Int) (x y : Int) (p : List Int) (hc : cs.length ≤ big) (hp : p.length ≤ big) : ∃ r : Int × Int × List Int × Int × Int × Bool, z0g.f w h cs x y p = some r ∧ zr.f w h cs x y p = some r ∧ r.2.2.1.length ≤ 1000 := by
  unfold z0g.f zr.f
  simp only [p_implScreen w h cs x y hc, p_specScreen w h cs x y hc, Option.bind_some, p_allRunes p hp, p_areRunes p 1000 hp]
  have e : decide (p.length ≤ 1000) = decide ((p.length : Int) ≤ 1000) := by rw [Bool.eq_iff_iff]; simp; omega
  rw [e, Bool.and_comm]
  cases hs : okScreen w h cs x y with
  | false => exact ⟨_, rfl, rfl, by simp⟩
  | true =>
    cases hl : (p.all okRune && decide ((p.length : Int) ≤ 1000)) with
    | false => exact ⟨_, rfl, rfl, by simp⟩
    | true =>
      simp only [Bool.not_true, Bool.false_eq_true, if_false, Option.bind_some]
      have I := okScreen_inv hs
      obtain ⟨cs', x', y', d1, d2, d3⟩ := p_puts p hp (((p.length : Int) - 0).toNat + 2) 0 cs x y (by rw [Bool.and_eq_true] at hl; exact hl.1) I (by omega) (by omega)
      rw [show ((0 : Nat) : Int) = 0 from rfl] at d1 d2
      have hl := d3.len
      refine ⟨(w, h, cs', x', y', true), ?_, ?_, by simp; omega⟩
      · rw [p_clone cs hc]
        simp only [Option.bind_some]
        rw [d1]
        rfl
      · rw [d2]
        simp only [Option.bind_some]
        rw [p_own cs' (by unfold big; omega)]
        rfl
theorem p_l16New_l (w h : Int) (n : Nat) (hn : w * h = n) (hb : n ≤ 1000) : ∀ (k i : Nat), i ≤ n → n - i < k → zg.l1 w h k i (List.replicate i 32) = some (List.replicate n 32) := by
  intro k
  induction k with
  | zero => intro i _ h; omega
  | succ k ih =>
    intro i hi hk
    rw [zg.l1, hn, wrapS (by omega) (by omega)]
    by_cases h1 : i < n
    · rw [if_pos (by simpa using h1), app?_at (by simp; omega)]
      simp only [Option.bind_some]
      rw [wrapN i (by omega), show List.replicate i (32 : Int) ++ [32] = List.replicate (i + 1) 32 by rw [List.replicate_succ']]
      exact ih (i + 1) h1 (by omega)
    · rw [if_neg (by simpa using h1)]
      obtain rfl : i = n := by omega
      rfl
theorem p_NewScreen (w h : Int) : ∃ r : Int × Int × List Int × Int × Int × Bool, z00.f w h = some r ∧ zh.f w h = some r ∧ r.2.2.1.length ≤ 1000 := by
  unfold z00.f zh.f
  simp only [p_inRange, p_l1In, Option.bind_some]
  by_cases h1 : 1 ≤ w ∧ w ≤ 20
  · by_cases h2 : 1 ≤ h ∧ h ≤ 8
    · obtain ⟨m1, m2⟩ := mul_le160 h1.1 h1.2 h2.1 h2.2
      obtain ⟨n, hn⟩ := Int.eq_ofNat_of_zero_le (show 0 ≤ w * h by omega)
      have e1 := p_repeat n (by omega)
      have e2 := p_l16New_l w h n hn (by omega) (((n : Int) - 0).toNat + 2) 0 (by omega) (by omega)
      rw [show ((0 : Nat) : Int) = 0 from rfl, show List.replicate 0 (32 : Int) = [] from rfl] at e2
      have e3 : zz.f w h = some (w, h, List.replicate n 32, 0, 0) := by
        unfold zz.f
        rw [hn, wrapS (by omega) (by omega), e1]
        rfl
      have e4 : zg.f w h = some (w, h, List.replicate n 32, 0, 0) := by
        unfold zg.f
        rw [hn, wrapS (by omega) (by omega), e2]
        rfl
      simp only [h1, h2, e3, e4, and_self, decide_true, Bool.and_true, Bool.not_true, Bool.false_eq_true, if_false, Option.bind_some]
      exact ⟨_, rfl, rfl, by simp; omega⟩
    · have e1 : (decide (1 ≤ h) && decide (h ≤ 8)) = false := by simpa using h2
      simp [h1, e1]
  · have e1 : (decide (1 ≤ w) && decide (w ≤ 20)) = false := by simpa using h1
    simp [e1]
/-- What one rune makes of a screen. -/
def stp (w h : Int) (s : List Int × Int × Int) (r : Int) : List Int × Int × Int := match z0f.f w h s.1 s.2.1 s.2.2 r with
  | some o => o.2.2
  | none => s
theorem stp_put {w h : Int} {s : List Int × Int × Int} (I : Inv w h s.1 s.2.1 s.2.2) {r : Int} (hr : okRune r = true) : z0f.f w h s.1 s.2.1 s.2.2 r = some (w, h, stp w h s r) ∧ zq.f w h s.1 s.2.1 s.2.2 r = some (w, h, stp w h s r) ∧ Inv w h (stp w h s r).1 (stp w h s r).2.1 (stp w h s r).2.2 := by
  obtain ⟨cs', x', y', d1, d2, d3⟩ := p_put I r hr
  have e : stp w h s r = (cs', x', y') := by unfold stp; rw [d1]
  rw [e]
  exact ⟨d1, d2, d3⟩
theorem p_putsF (p : List Int) (hp : p.length ≤ big) (hg : p.all okRune = true) {w h : Int} : ∀ (k i : Nat) (s : List Int × Int × Int), Inv w h s.1 s.2.1 s.2.2 → i ≤ p.length → p.length - i < k →
    z0g.l1 p k i w h s.1 s.2.1 s.2.2 = some (w, h, (p.drop i).foldl (stp w h) s) ∧ zr.l1 p k i w h s.1 s.2.1 s.2.2 = some (w, h, (p.drop i).foldl (stp w h) s) ∧ Inv w h ((p.drop i).foldl (stp w h) s).1 ((p.drop i).foldl (stp w h) s).2.1 ((p.drop i).foldl (stp w h) s).2.2 := by
  intro k
  induction k with
  | zero => intro i s _ _ h; omega
  | succ k ih =>
    intro i s I hi hk
    rw [z0g.l1, zr.l1]
    by_cases h : i < p.length
    · obtain ⟨d1, d2, d3⟩ := stp_put I (List.all_eq_true.1 hg _ (List.getElem_mem h))
      have := ih (i + 1) (stp w _ s p[i]) d3 h (by omega)
      rw [List.drop_eq_getElem_cons h, List.foldl_cons]
      rw [if_pos (by simpa using h), if_pos (by simpa using h), rd?_at h]
      simp only [Option.bind_some, d1, d2]
      rw [wrapN i (by unfold big at hp; omega)]
      exact this
    · rw [if_neg (by simpa using h), if_neg (by simpa using h), List.drop_of_length_le (by omega)]
      exact ⟨rfl, rfl, I⟩
theorem inv_ok {w h : Int} {cs : List Int} {x y : Int} (I : Inv w h cs x y) : okScreen w h cs x y = true := by
  have := I.w0; have := I.w1; have := I.h0; have := I.h1; have := I.x0; have := I.x1; have := I.y0; have := I.y1; have := I.c
  simp only [okScreen, Bool.and_eq_true, decide_eq_true_eq]
  exact ⟨by omega, I.g⟩
theorem p_PutRunesF {w h : Int} {cs : List Int} {x y : Int} {p : List Int} (hs : okScreen w h cs x y = true) (hg : p.all okRune = true) (hl : p.length ≤ 1000) : ∃ t : List Int × Int × Int, t = p.foldl (stp w h) (cs, x, y) ∧ z0g.f w h cs x y p = some (w, h, t.1, t.2.1, t.2.2, true) ∧ zr.f w h cs x y p = some (w, h, t.1, t.2.1, t.2.2, true) ∧ Inv w h t.1 t.2.1 t.2.2 := by
  have I := okScreen_inv hs
  have hc : cs.length ≤ big := by have := I.len; unfold big; omega
  have hp : p.length ≤ big := by unfold big; omega
  obtain ⟨d1, d2, d3⟩ := p_putsF p hp hg (((p.length : Int) - 0).toNat + 2) 0 (cs, x, y) I (by omega) (by omega)
  rw [show ((0 : Nat) : Int) = 0 from rfl] at d1 d2
  rw [List.drop_zero] at d1 d2 d3
  refine ⟨_, rfl, ?_, ?_, d3⟩
  · unfold z0g.f
    simp only [p_implScreen w h cs x y hc, Option.bind_some, p_areRunes p 1000 hp, hs, hg]
    have e : decide ((p.length : Int) ≤ 1000) = true := by simp; omega
    simp only [e, Bool.and_self, Bool.not_true, Bool.false_eq_true, if_false, Option.bind_some]
    rw [p_clone cs hc]
    simp only [Option.bind_some]
    rw [d1]
    rfl
  · unfold zr.f
    simp only [p_specScreen w h cs x y hc, Option.bind_some, p_allRunes p hp, hs, hg]
    have e : decide (p.length ≤ 1000) = true := by simp; omega
    simp only [e, Bool.and_self, Bool.not_true, Bool.false_eq_true, if_false, Option.bind_some]
    rw [d2]
    simp only [Option.bind_some]
    rw [p_own _ (by have := d3.len; unfold big; omega)]
    rfl
theorem p_PutRunesB {w h : Int} {cs : List Int} {x y : Int} {p : List Int} (hs : okScreen w h cs x y = true) (hp : p.length ≤ big) : (∃ t : List Int × Int × Int, z0g.f w h cs x y p = some (w, h, t.1, t.2.1, t.2.2, true) ∧ zr.f w h cs x y p = some (w, h, t.1, t.2.1, t.2.2, true) ∧ Inv w h t.1 t.2.1 t.2.2) ∨ (z0g.f w h cs x y p = some (0, 0, [], 0, 0, false) ∧ zr.f w h cs x y p = some (0, 0, [], 0, 0, false)) := by
  by_cases hg : p.all okRune = true ∧ p.length ≤ 1000
  · obtain ⟨t, _, e1, e2, e3⟩ := p_PutRunesF hs hg.1 hg.2
    exact .inl ⟨t, e1, e2, e3⟩
  · have I := okScreen_inv hs
    have hc : cs.length ≤ big := by have := I.len; unfold big; omega
    have e : (p.all okRune && decide ((p.length : Int) ≤ 1000)) = false := by
      rw [Bool.and_eq_false_iff]
      by_cases a : p.all okRune = true
      · right; rw [decide_eq_false_iff_not]; intro b; exact hg ⟨a, by omega⟩
      · left; simpa using a
    have e2 : (p.all okRune && decide (p.length ≤ 1000)) = false := by
      rw [← e]; congr 1; rw [Bool.eq_iff_iff]; simp; omega
    right
    constructor
    · unfold z0g.f
      simp only [p_implScreen w h cs x y hc, Option.bind_some, p_areRunes p 1000 hp, hs]
      rw [Bool.and_comm] at e
      rw [e]
      rfl
    · unfold zr.f
      simp only [p_specScreen w h cs x y hc, Option.bind_some, p_allRunes p hp, hs]
      rw [e2]
      rfl
theorem p_shownNo (lg : List (Int × Int × Int × Int × List Int)) (hl : lg.length ≤ 100000000) (w h : Int) (cs : List Int) (x y : Int) : ∀ (k i : Nat), i ≤ lg.length → lg.length - i < k → z0h.l1 lg k false i w h cs x y = some (false, w, h, cs, x, y) := by
  intro k
  induction k with
  | zero => intro i _ h; omega
  | succ k ih =>
    intro i hi hk
    rw [z0h.l1]
    by_cases hlt : i < lg.length
    · rw [if_pos (by simpa using hlt), rd?_at hlt]
      simp only [Option.bind_some, Bool.false_eq_true, if_false]
      rw [wrapN i (by omega)]
      exact ih (i + 1) (by omega) (by omega)
    · rw [if_neg (by simpa using hlt)]
theorem p_shownL (lg : List (Int × Int × Int × Int × List Int)) (hl : wL w_Event lg ≤ 100000000) (w h : Int) : ∀ (k i : Nat) (cs : List Int) (x y : Int), okScreen w h cs x y = true → i ≤ lg.length → lg.length - i < k →
    (∃ (cs' : List Int) (x' y' : Int), zt.l1 lg k i w h cs x y = some (.go (w, h, cs', x', y')) ∧ z0h.l1 lg k true i w h cs x y = some (true, w, h, cs', x', y') ∧ okScreen w h cs' x' y' = true) ∨
    (zt.l1 lg k i w h cs x y = some (.ret (0, 0, [], 0, 0, false)) ∧ ∃ z, z0h.l1 lg k true i w h cs x y = some (false, z)) := by
  have hn := wL_len w_Event_pos lg
  intro k
  induction k with
  | zero => intro i _ _ _ _ _ h; omega
  | succ k ih =>
    intro i cs x y hs hi hk
    rw [z0h.l1, zt.l1]
    by_cases hlt : i < lg.length
    · rw [if_pos (by simpa using hlt), if_pos (by simpa using hlt), rd?_at hlt]
      simp only [Option.bind_some, if_true]
      rw [wrapN i (by omega)]
      by_cases hk1 : lg[i].1 = 1
      · have e1 : (lg[i].1 == 1) = true := by simpa using hk1
        have e2 : (lg[i].1 != 1) = false := by simpa using hk1
        simp only [e1, e2, Bool.false_eq_true, if_false, if_true]
        have ht : lg[i].2.2.2.2.length ≤ big := by
          have := wL_mem w_Event_pos (show wL w_Event lg ≤ 1000000000 by omega) (List.getElem_mem hlt)
          have e : w_Event lg[i] = wL wZ lg[i].2.2.2.2 := rfl
          have := wL_int lg[i].2.2.2.2
          unfold big
          omega
        rcases p_PutRunesB hs ht with ⟨t, d1, d2, d3⟩ | ⟨d1, d2⟩
        · rw [d1, d2]
          simp only [Option.bind_some, Bool.not_true, Bool.false_eq_true, if_false]
          exact ih (i + 1) t.1 t.2.1 t.2.2 (inv_ok d3) (by omega) (by omega)
        · rw [d1, d2]
          simp only [Option.bind_some, Bool.not_false, if_true]
          exact .inr ⟨trivial, _, p_shownNo lg (by omega) _ _ _ _ _ k (i + 1) (by omega) (by omega)⟩
      · have e1 : (lg[i].1 == 1) = false := by simpa using hk1
        have e2 : (lg[i].1 != 1) = true := by simpa using hk1
        simp only [e1, e2, Bool.false_eq_true, if_false, if_true, Option.bind_some]
        exact ih (i + 1) cs x y hs (by omega) (by omega)
    · rw [if_neg (by simpa using hlt), if_neg (by simpa using hlt)]
      exact .inl ⟨cs, x, y, rfl, rfl, hs⟩
theorem p_ShownTo (co : Int) (vs : List Int) (lg : List (Int × Int × Int × Int × List Int)) (en sh lo : Int) (hd : ByteArray) (mx : Int) (rs ls : List Int) (go : Int) (eof : Bool) (w h : Int) (hl : wL w_Event lg ≤ 100000000) : ∃ r : Int × Int × List Int × Int × Int × Bool, z0h.f co vs lg en sh lo hd mx rs ls go eof w h = some r ∧ zt.f co vs lg en sh lo hd mx rs ls go eof w h = some r ∧ r.2.2.1.length ≤ 1000 := by
  have hn := wL_len w_Event_pos lg
  unfold z0h.f zt.f
  by_cases hok : (1 ≤ w ∧ w ≤ 20) ∧ (1 ≤ h ∧ h ≤ 8)
  · obtain ⟨m1, m2⟩ := mul_le160 hok.1.1 hok.1.2 hok.2.1 hok.2.2
    obtain ⟨n, hn2⟩ := Int.eq_ofNat_of_zero_le (show 0 ≤ w * h by omega)
    obtain ⟨e1, e2⟩ := p_newScr w h n hn2 (by omega)
    have i1 : z00.f w h = some (w, h, List.replicate n 32, 0, 0, true) := by
      unfold z00.f
      simp [p_inRange, hok, e1]
    have i2 : zh.f w h = some (w, h, List.replicate n 32, 0, 0, true) := by
      unfold zh.f
      simp [p_l1In, hok, e2]
    have I : Inv w h (List.replicate n 32) 0 0 := ⟨hok.1.1, hok.1.2, hok.2.1, hok.2.2, by omega, by omega, by omega, by omega, by simpa using hn2.symm, all_blank _⟩
    rw [i1, i2]
    simp only [Option.bind_some, Bool.not_true, Bool.false_eq_true, if_false]
    have := p_shownL lg hl w h (((lg.length : Int) - 0).toNat + 2) 0 (List.replicate n 32) 0 0 (inv_ok I) (by omega) (by omega)
    rw [show ((0 : Nat) : Int) = 0 from rfl] at this
    rcases this with ⟨cs', x', y', s1, s2, s3⟩ | ⟨s1, z, s2⟩
    · rw [s1, s2]
      have := (okScreen_inv s3).len
      exact ⟨(w, h, cs', x', y', true), rfl, rfl, by show cs'.length ≤ 1000; omega⟩
    · rw [s1, s2]
      exact ⟨(0, 0, [], 0, 0, false), rfl, rfl, by simp⟩
  · have i1 : z00.f w h = some (0, 0, [], 0, 0, false) := by
      unfold z00.f
      simp only [p_inRange, Option.bind_some]
      have hx : ¬ ((1 ≤ w ∧ w ≤ 20) ∧ 1 ≤ h ∧ h ≤ 8) := hok
      by_cases a : 1 ≤ w ∧ w ≤ 20
      · have b : ¬ (1 ≤ h ∧ h ≤ 8) := fun b => hx ⟨a, b⟩
        simp [a]
        by_cases c : 1 ≤ h
        · simp [c]; omega
        · simp [c]
      · by_cases c : 1 ≤ w
        · have : ¬ w ≤ 20 := fun d => a ⟨c, d⟩
          simp [this]
        · simp [c]
    have i2 : zh.f w h = some (0, 0, [], 0, 0, false) := by
      unfold zh.f
      simp only [p_l1In, Option.bind_some]
      have hx : ¬ ((1 ≤ w ∧ w ≤ 20) ∧ 1 ≤ h ∧ h ≤ 8) := hok
      by_cases a : 1 ≤ w ∧ w ≤ 20
      · have b : ¬ (1 ≤ h ∧ h ≤ 8) := fun b => hx ⟨a, b⟩
        simp [a]
        by_cases c : 1 ≤ h
        · simp [c]; omega
        · simp [c]
      · by_cases c : 1 ≤ w
        · have : ¬ w ≤ 20 := fun d => a ⟨c, d⟩
          simp [this]
        · simp [c]
    rw [i1, i2]
    simp only [Option.bind_some]
    rw [show (0 : Int) = ((0 : Nat) : Int) from rfl, p_shownNo lg (by omega) _ _ _ _ _ _ 0 (by omega) (by omega)]
    exact ⟨(0, 0, [], 0, 0, false), rfl, rfl, by simp⟩
theorem law_ShownTo (co : Int) (vs : List Int) (lg : List (Int × Int × Int × Int × List Int)) (en sh lo : Int) (hd : ByteArray) (mx : Int) (rs ls : List Int) (go : Int) (eof : Bool) (w h : Int) (_ : inK .i64 co) (hvs : allW (inK .i64) vs) (hlg : allW (fun u : Int × Int × Int × Int × List Int => inK .i64 u.1 ∧ inK .i64 u.2.1 ∧ inK .i64 u.2.2.1 ∧ inK .i64 u.2.2.2.1 ∧ allW (inK .i64) u.2.2.2.2) lg) (_ : inK .i64 en) (_ : inK .i64 sh) (_ : inK .i64 lo) (hhd : hd.size ≤ maxN) (_ : inK .i64 mx) (hrs : allW (inK .i64) rs) (hls : allW (inK .i64) ls) (_ : inK .i64 go) (_ : True) (_ : inK .i64 w) (_ : inK .i64 h) : z0y.f co vs lg en sh lo hd mx rs ls go eof w h = some true := by
  unfold z0y.f
  obtain ⟨r, e, hr⟩ := sz_Talk co vs lg en sh lo hd mx rs ls go eof ⟨hvs.1, fun _ _ => trivial⟩ ⟨hlg.1, fun u hu => ⟨(hlg.2 u hu).2.2.2.2.1, fun _ _ => trivial⟩⟩ hhd ⟨hrs.1, fun _ _ => trivial⟩ ⟨hls.1, fun _ _ => trivial⟩
  rw [e]
  simp only [Option.bind_some]
  by_cases h0 : r < 0
  · rw [if_pos (by simpa using h0)]
  rw [if_neg (by simpa using h0)]
  replace hr := hr.resolve_left h0
  have w1 := wL_pos w_Event_pos lg
  have g1 : vs.length ≤ 100000000 := by omega
  have g2 : wL w_Event lg ≤ 100000000 := by omega
  have g3 : rs.length ≤ 100000000 := by omega
  have g4 : ls.length ≤ 100000000 := by omega
  obtain ⟨t, e1, e2, b1⟩ := p_ShownTo co vs lg en sh lo hd mx rs ls go eof w h g2
  obtain ⟨m, m1, m2⟩ := mark_Talk co vs lg en sh lo hd mx rs ls go eof g1 g2 g3 g4
  have c1 : t.2.2.1.length ≤ big := by unfold big; omega
  have k2 := p_markIntS t.2.2.1 1 (by omega) (by omega) c1
  have k3 := p_heldIntS t.2.2.1.length 1 (by omega) (by omega) c1
  have n2 : ¬ (1 + (t.2.2.1.length : Int) < 0) := by omega
  have n1 : ¬ (m.1 < 0) := by omega
  simp [to_Talk co vs lg en sh lo hd mx rs ls go eof g1 g2 g3 g4, e1, e2, eq_Talk co vs lg en sh lo hd mx rs ls go eof g1 g2 g3 g4, m1, n1, p_eqScreen t.1 t.2.1 t.2.2.1 t.2.2.2.1 t.2.2.2.2.1 c1, z0v.f, z0x.f, k2, k3, n2]
end Go.Proofs.Ytaojkgkajppkaaa
