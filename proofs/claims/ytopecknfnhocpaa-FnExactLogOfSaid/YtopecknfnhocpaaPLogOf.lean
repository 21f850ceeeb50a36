/- Plain laws of the printed functions. Conditions as each lemma says. -/
import Derived.Test.YtopecknfnhocpaaPB
import Derived.Test.YtopecknfnhocpaaWLogOf1
set_option linter.unusedVariables false
set_option linter.unusedSimpArgs false
namespace Go.Proofs.Ytopecknfnhocpaa
open Go Go.Proofs.GL
theorem p_eqIntS (p q : List Int) (hp : p.length ≤ big) : laws_eqIntS.f p q = some (decide (p = q)) :=
  eq_all p q hp (laws_eqIntS.l1 p q) _ (by omega) fun _ _ _ => rfl
def marks (k : Int) (n : Nat) : List Int := (List.range n).map fun i : Nat => k + i
theorem marks_len (k : Int) (n : Nat) : (marks k n).length = n := by simp [marks]
theorem marks_get (k : Int) (n i : Nat) (h : i < n) : (marks k n)[i]? = some (k + i) := by simp [marks, h]
theorem p_markIntS_l (p : List Int) (k0 : Int) (h0 : 0 ≤ k0) (h1 : k0 ≤ 1000000000000) (hp : p.length ≤ big) : ∀ (k i : Nat) (x : List Int), i ≤ p.length → p.length - i < k → x.length = p.length → x.take i = (marks k0 p.length).take i → laws_markIntS.l1 p k x (k0 + i) i = some (k0 + p.length, marks k0 p.length) := by
  intro k
  induction k with
  | zero => intro i x _ h; omega
  | succ k ih =>
    intro i x hi hk hl ht
    rw [laws_markIntS.l1]
    by_cases h : i < p.length
    · rw [if_pos (by simpa using h), rd?_at (by omega : i < x.length)]
      simp only [Option.bind_some]
      rw [st?_at _ (by omega : i < x.length)]
      simp only [Option.bind_some]
      unfold big at hp
      rw [wrapN i (by omega), wrapS (by omega) (by omega), show k0 + (i : Int) + 1 = k0 + ((i + 1 : Nat) : Int) by omega]
      refine ih (i + 1) _ h (by omega) (by simpa using hl) ?_
      rw [List.take_add_one, List.take_add_one, List.take_set_of_le (Nat.le_refl i), ht, marks_get _ _ _ h]
      simp [h, hl]
    · rw [if_neg (by simpa using h)]
      obtain rfl : i = p.length := by omega
      rw [List.take_of_length_le (l := x) (by omega), List.take_of_length_le (l := marks k0 p.length) (by rw [marks_len]; omega)] at ht
      rw [ht]
theorem p_markIntS (p : List Int) (k0 : Int) (h0 : 0 ≤ k0) (h1 : k0 ≤ 1000000000000) (hp : p.length ≤ big) : laws_markIntS.f p k0 = some (k0 + p.length, marks k0 p.length) := by
  unfold laws_markIntS.f
  have := p_markIntS_l p k0 h0 h1 hp (((p.length : Int) - 0).toNat + 2) 0 p (by omega) (by omega) rfl (by simp)
  rw [show ((0 : Nat) : Int) = 0 from rfl, Int.add_zero] at this
  rw [this]
  rfl
theorem p_heldIntS_l (n : Nat) (k0 : Int) (h0 : 0 ≤ k0) (h1 : k0 ≤ 1000000000000) (hp : n ≤ big) : ∀ (k i : Nat), i ≤ n → n - i < k → laws_heldIntS.l1 (marks k0 n) k (k0 + i) i = some (.go (k0 + n)) := by
  intro k
  induction k with
  | zero => intro i _ h; omega
  | succ k ih =>
    intro i hi hk
    rw [laws_heldIntS.l1, marks_len]
    by_cases h : i < n
    · have hm := rd?_at (xs := marks k0 n) (i := i) (by rw [marks_len]; exact h)
      have hg : (marks k0 n)[i]'(by rw [marks_len]; exact h) = k0 + i := by simp [marks]
      rw [if_pos (by simpa using h), hm, hg]
      simp only [Option.bind_some]
      unfold big at hp
      rw [if_neg (by simp), wrapN i (by omega), wrapS (by omega) (by omega), show k0 + (i : Int) + 1 = k0 + ((i + 1 : Nat) : Int) by omega]
      exact ih (i + 1) h (by omega)
    · rw [if_neg (by simpa using h)]
      obtain rfl : i = n := by omega
      rfl
theorem p_heldIntS (n : Nat) (k0 : Int) (h0 : 0 ≤ k0) (h1 : k0 ≤ 1000000000000) (hp : n ≤ big) : laws_heldIntS.f (marks k0 n) k0 = some (k0 + n) := by
  unfold laws_heldIntS.f
  have := p_heldIntS_l n k0 h0 h1 hp ((((marks k0 n).length : Int) - 0).toNat + 2) 0 (by omega) (by rw [marks_len]; omega)
  rw [show ((0 : Nat) : Int) = 0 from rfl, Int.add_zero] at this
  rw [this]
  rfl
abbrev Ev := Int × Int × Int × Int × List Int
def okEvs (d : List Ev) : Prop := d.length ≤ big ∧ ∀ u ∈ d, u.2.2.2.2.length ≤ big
def wEv : List Ev → Int
  | [] => 0
  | u :: us => 4 + u.2.2.2.2.length + wEv us
theorem wEv_cons (u : Ev) (us : List Ev) : wEv (u :: us) = 4 + u.2.2.2.2.length + wEv us := rfl
theorem wEv_pos : ∀ d : List Ev, 0 ≤ wEv d
  | [] => Int.le_refl _
  | u :: us => by have := wEv_pos us; rw [wEv_cons]; omega
theorem p_eqEvent (u v : Ev) (hu : u.2.2.2.2.length ≤ big) : laws_eqEvent.f u.1 u.2.1 u.2.2.1 u.2.2.2.1 u.2.2.2.2 v.1 v.2.1 v.2.2.1 v.2.2.2.1 v.2.2.2.2 = some (decide (u = v)) := by
  unfold laws_eqEvent.f
  rw [p_eqIntS _ _ hu]
  obtain ⟨a, b, c, d, e⟩ := u
  obtain ⟨a', b', c', d', e'⟩ := v
  by_cases h1 : a = a' <;> by_cases h2 : b = b' <;> by_cases h3 : c = c' <;> by_cases h4 : d = d' <;> by_cases h5 : e = e' <;> simp [h1, h2, h3, h4, h5]
theorem p_eqEventS (p q : List Ev) (hp : okEvs p) : laws_eqEventS.f p q = some (decide (p = q)) :=
  eqS_all p q hp.1 (fun u v => laws_eqEvent.f u.1 u.2.1 u.2.2.1 u.2.2.2.1 u.2.2.2.2 v.1 v.2.1 v.2.2.1 v.2.2.2.1 v.2.2.2.2) (fun u hu v => p_eqEvent u v (hp.2 u hu)) (laws_eqEventS.l1 p q) (((p.length : Int) - 0).toNat + 2) (by omega) fun _ _ => rfl
def mEv (u : Ev) (c : Int) : Int × Ev := (c + 4 + u.2.2.2.2.length, (c, c + 1, c + 2, c + 3, marks (c + 4) u.2.2.2.2.length))
def gEv (us : List Ev) (c : Int) : Prop := 0 ≤ c ∧ c + wEv us ≤ 1000000000000 ∧ okEvs us
theorem gEv_step (u : Ev) (us : List Ev) (c : Int) (h : gEv (u :: us) c) : gEv us (mEv u c).1 := by
  obtain ⟨h0, h1, h2, h3⟩ := h
  rw [wEv_cons] at h1
  exact ⟨by simp only [mEv]; omega, by simp only [mEv]; omega, by simp at h2; omega, fun v hv => h3 v (List.mem_cons_of_mem _ hv)⟩
theorem rd_mid {α : Type} (pre : List α) (u : α) (us : List α) : rd? (pre ++ u :: us) (pre.length : Int) = some u := by rw [rd?_at (by simp)]; simp
theorem st_mid {α : Type} (pre : List α) (u v : α) (us : List α) : st? (pre ++ u :: us) (pre.length : Int) v = some (pre ++ v :: us) := by rw [st?_at _ (by simp)]; simp
theorem p_markEventS (d : List Ev) (c : Int) (hg : gEv d c) : laws_markEventS.f d c = some (mAll mEv d c) := by
  unfold laws_markEventS.f
  have := mark_loop d.length hg.2.2.1 mEv gEv gEv_step (laws_markEventS.l1 d) (fun x c i K => (rd? x i).bind fun u211 => (st? x i (c, u211.2.1, u211.2.2.1, u211.2.2.2.1, u211.2.2.2.2)).bind fun x213 => (rd? x213 i).bind fun u216 => (st? x213 i (u216.1, IntKind.i64.wrap (c + 1), u216.2.2.1, u216.2.2.2.1, u216.2.2.2.2)).bind fun x218 => (rd? x218 i).bind fun u221 => (st? x218 i (u221.1, u221.2.1, IntKind.i64.wrap ((IntKind.i64.wrap (c + 1)) + 1), u221.2.2.2.1, u221.2.2.2.2)).bind fun x223 => (rd? x223 i).bind fun u226 => (st? x223 i (u226.1, u226.2.1, u226.2.2.1, IntKind.i64.wrap ((IntKind.i64.wrap ((IntKind.i64.wrap (c + 1)) + 1)) + 1), u226.2.2.2.2)).bind fun x228 => (rd? x228 i).bind fun u230 => (laws_markIntS.f u230.2.2.2.2 (IntKind.i64.wrap ((IntKind.i64.wrap ((IntKind.i64.wrap ((IntKind.i64.wrap (c + 1)) + 1)) + 1)) + 1))).bind fun u240 => (st? x228 i (u230.1, u230.2.1, u230.2.2.1, u230.2.2.2.1, u240.2)).bind fun x242 => K x242 u240.1)
    (fun pre u us c K hg => by
      have hw := wEv_pos us
      obtain ⟨h0, h1, h2, h3⟩ := hg
      rw [wEv_cons] at h1
      have m := p_markIntS u.2.2.2.2 (c + 4) (by omega) (by omega) (h3 u (by simp))
      rw [wrapS (n := c + 1) (by omega) (by omega), wrapS (n := c + 1 + 1) (by omega) (by omega), wrapS (n := c + 1 + 1 + 1) (by omega) (by omega), wrapS (n := c + 1 + 1 + 1 + 1) (by omega) (by omega)]
      rw [show c + 1 + 1 = c + 2 by omega, show c + 2 + 1 = c + 3 by omega, show c + 3 + 1 = c + 4 by omega]
      simp only [rd_mid, st_mid, Option.bind_some, m]
      rfl) (fun _ _ _ _ => rfl) d [] c (((d.length : Int) - 0).toNat + 2) (by simp) (by omega) hg
  simp only [List.nil_append, List.length_nil] at this
  rw [show ((0 : Nat) : Int) = 0 from rfl] at this
  rw [this]
  rfl
theorem p_heldEventS (d : List Ev) (c : Int) (hg : gEv d c) : laws_heldEventS.f (mAll mEv d c).2 c = some (mAll mEv d c).1 := by
  unfold laws_heldEventS.f
  have := held_loop d.length hg.2.2.1 mEv gEv gEv_step laws_heldEventS.l1 (fun p c i K => (rd? p i).bind fun u217 => if (u217.1 != c) = true then (some (Lo.ret (-1))) else ((rd? p i).bind fun u224 => if (u224.2.1 != (IntKind.i64.wrap (c + 1))) = true then (some (Lo.ret (-1))) else ((rd? p i).bind fun u231 => if (u231.2.2.1 != (IntKind.i64.wrap ((IntKind.i64.wrap (c + 1)) + 1))) = true then (some (Lo.ret (-1))) else ((rd? p i).bind fun u238 => if (u238.2.2.2.1 != (IntKind.i64.wrap ((IntKind.i64.wrap ((IntKind.i64.wrap (c + 1)) + 1)) + 1))) = true then (some (Lo.ret (-1))) else ((rd? p i).bind fun u244 => (laws_heldIntS.f u244.2.2.2.2 (IntKind.i64.wrap ((IntKind.i64.wrap ((IntKind.i64.wrap ((IntKind.i64.wrap (c + 1)) + 1)) + 1)) + 1))).bind fun u246 => if (decide (u246 < 0)) = true then (some (Lo.ret (-1))) else K u246)))))
    (fun pre post u us c K hg => by
      have hw := wEv_pos us
      obtain ⟨h0, h1, h2, h3⟩ := hg
      rw [wEv_cons] at h1
      have m := p_heldIntS u.2.2.2.2.length (c + 4) (by omega) (by omega) (h3 u (by simp))
      rw [wrapS (n := c + 1) (by omega) (by omega), wrapS (n := c + 1 + 1) (by omega) (by omega), wrapS (n := c + 1 + 1 + 1) (by omega) (by omega), wrapS (n := c + 1 + 1 + 1 + 1) (by omega) (by omega)]
      rw [show c + 1 + 1 = c + 2 by omega, show c + 2 + 1 = c + 3 by omega, show c + 3 + 1 = c + 4 by omega]
      have n1 : ¬ (c + 4 + (u.2.2.2.2.length : Int) < 0) := by omega
      simp [rd_mid, mEv, m, n1]) (fun _ _ _ _ => rfl) d [] c ((((mAll mEv d c).2.length : Int) - 0).toNat + 2) (by simp) (by rw [mAll_len]; omega) hg
  simp only [List.nil_append, List.length_nil] at this
  rw [show ((0 : Nat) : Int) = 0 from rfl] at this
  rw [this]
  rfl
theorem mEv_ge : ∀ (d : List Ev) (c : Int), (mAll mEv d c).1 = c + wEv d
  | [], c => by simp [mAll, wEv]
  | u :: us, c => by
    have := mEv_ge us (mEv u c).1
    simp only [mAll, this]
    simp only [mEv, wEv_cons]
    omega
theorem p_toIntS_l (p : List Int) (hp : p.length ≤ big) : ∀ (k i : Nat) (x : List Int), i ≤ p.length → p.length - i < k → x.length = p.length → x.take i = p.take i → laws_toIntS.l1 p k x i = some p := by
  intro k
  induction k with
  | zero => intro i x _ h; omega
  | succ k ih =>
    intro i x hi hk hl ht
    rw [laws_toIntS.l1]
    by_cases h : i < p.length
    · rw [if_pos (by simpa using h), rd?_at h]
      simp only [Option.bind_some]
      rw [rd?_at (by omega : i < x.length)]
      simp only [Option.bind_some]
      rw [st?_at p[i] (by omega : i < x.length)]
      simp only [Option.bind_some]
      rw [wrapN i (by unfold big at hp; omega)]
      refine ih (i + 1) _ h (by omega) (by simpa using hl) ?_
      rw [List.take_add_one, List.take_add_one, List.take_set_of_le (Nat.le_refl i), ht]
      simp [h, hl]
    · rw [if_neg (by simpa using h)]
      obtain rfl : i = p.length := by omega
      rw [List.take_length, ← hl, List.take_length] at ht
      rw [ht]
theorem p_toIntS (p : List Int) (hp : p.length ≤ big) : laws_toIntS.f p = some p := by
  unfold laws_toIntS.f
  rw [mk?_at (by unfold big at hp; omega)]
  simp only [Option.bind_some]
  have := p_toIntS_l p hp (((p.length : Int) - 0).toNat + 2) 0 (List.replicate p.length 0) (by omega) (by omega) (by simp) (by simp)
  rw [show ((0 : Nat) : Int) = 0 from rfl] at this
  rw [this]
  rfl
theorem p_szIntS (p : List Int) (n : Int) (h0 : 0 ≤ n) (h1 : n ≤ 1048576) (hp : p.length ≤ maxN) : laws_szIntS.f p n = some (if (p.length : Int) ≤ n then n - p.length else -1) := by
  unfold laws_szIntS.f
  unfold maxN at hp
  rw [wrapS (by omega) (by omega)]
  by_cases h : (p.length : Int) ≤ n
  · rw [if_neg (by simp; omega), if_pos h]
  · rw [if_pos (by simp; omega), if_neg h]
abbrev Sd := Int × Ev
def okSds (d : List Sd) : Prop := d.length ≤ big ∧ ∀ u ∈ d, u.2.2.2.2.2.length ≤ big
def wSd : List Sd → Int
  | [] => 0
  | u :: us => 5 + u.2.2.2.2.2.length + wSd us
theorem wSd_cons (u : Sd) (us : List Sd) : wSd (u :: us) = 5 + u.2.2.2.2.2.length + wSd us := rfl
theorem wSd_pos : ∀ d : List Sd, 0 ≤ wSd d
  | [] => Int.le_refl _
  | u :: us => by have := wSd_pos us; rw [wSd_cons]; omega
theorem p_szSaid (u : Sd) (hu : u.2.2.2.2.2.length ≤ maxN) (n : Int) (h0 : 0 ≤ n) (h1 : n ≤ 1048576) : ∃ r, laws_szSaid.f u.1 u.2.1 u.2.2.1 u.2.2.2.1 u.2.2.2.2.1 u.2.2.2.2.2 n = some r ∧ (r < 0 ∨ 0 ≤ r ∧ r + u.2.2.2.2.2.length ≤ n) := by
  unfold laws_szSaid.f laws_szEvent.f
  rw [p_szIntS _ n h0 h1 hu]
  simp only [Option.bind_some]
  by_cases h : (u.2.2.2.2.2.length : Int) ≤ n
  · rw [if_pos h, if_neg (by simp; omega)]
    simp only [Option.bind_some]
    rw [if_neg (by simp; omega)]
    exact ⟨_, rfl, .inr ⟨by omega, by omega⟩⟩
  · rw [if_neg h, if_pos (by decide)]; exact ⟨-1, rfl, .inl (by decide)⟩
theorem wSd_eq : ∀ d : List Sd, wSd d = 5 * d.length + sumW (fun u : Sd => (u.2.2.2.2.2.length : Int)) d
  | [] => rfl
  | u :: us => by
    have := wSd_eq us
    simp only [List.length_cons, wSd_cons, sumW]
    omega
theorem p_szSaidS (d : List Sd) (hd : d.length ≤ maxN) (hu : ∀ u ∈ d, u.2.2.2.2.2.length ≤ maxN) (n : Int) (h0 : 0 ≤ n) (h1 : n ≤ 1048576) : ∃ r, laws_szSaidS.f d n = some r ∧ (r < 0 ∨ 0 ≤ r ∧ r + (d.length + sumW (fun u : Sd => (u.2.2.2.2.2.length : Int)) d) ≤ n) :=
  sz_all d hd n h0 h1 (fun u n => laws_szSaid.f u.1 u.2.1 u.2.2.1 u.2.2.2.1 u.2.2.2.2.1 u.2.2.2.2.2 n) (fun u => u.2.2.2.2.2.length) (fun u hm n a b => p_szSaid u (hu u hm) n a b) (fun u _ => by omega) (laws_szSaidS.l1 d) (((d.length : Int) - 0).toNat + 2) (by omega) fun _ _ _ => rfl
theorem wSd_ok {d : List Sd} (h : d.length + sumW (fun u : Sd => (u.2.2.2.2.2.length : Int)) d ≤ 1048576) : okSds d ∧ d.length ≤ 1048576 ∧ wSd d ≤ 10000000 := by
  have hp : ∀ u ∈ d, 0 ≤ (u.2.2.2.2.2.length : Int) := fun u _ => by omega
  have h2 := wSd_eq d
  have h3 := sumW_pos (w := fun u : Sd => (u.2.2.2.2.2.length : Int)) hp
  exact ⟨⟨by unfold big; omega, fun u hu => by have := sumW_mem (w := fun u : Sd => (u.2.2.2.2.2.length : Int)) hp u hu; unfold big; omega⟩, by omega, by omega⟩
theorem p_toSaidS (d : List Sd) (hd : okSds d) (hd2 : d.length ≤ 2199023255552) : laws_toSaidS.f d = some d :=
  copy_all d hd.1 (fun u77 K => (laws_toSaid.f u77.1 u77.2.1 u77.2.2.1 u77.2.2.2.1 u77.2.2.2.2.1 u77.2.2.2.2.2).bind fun u79 => K (u79.1, (u79.2.1, u79.2.2.1, u79.2.2.2.1, u79.2.2.2.2.1, u79.2.2.2.2.2))) (fun u hu K => by unfold laws_toSaid.f laws_toEvent.f; rw [p_toIntS _ (hd.2 u hu)]; rfl) (laws_toSaidS.l1 d) _ (((d.length : Int) - 0).toNat + 2) 2199023255552 (by omega) hd2 fun _ _ _ => rfl
theorem p_eqSaidS (p q : List Sd) (hp : okSds p) : laws_eqSaidS.f p q = some (decide (p = q)) :=
  eqS_all p q hp.1 (fun u v => laws_eqSaid.f u.1 u.2.1 u.2.2.1 u.2.2.2.1 u.2.2.2.2.1 u.2.2.2.2.2 v.1 v.2.1 v.2.2.1 v.2.2.2.1 v.2.2.2.2.1 v.2.2.2.2.2) (fun u hu v => by
    unfold laws_eqSaid.f
    rw [p_eqEvent u.2 v.2 (hp.2 u hu)]
    obtain ⟨u1, u2⟩ := u
    obtain ⟨v1, v2⟩ := v
    by_cases h1 : u1 = v1 <;> by_cases h2 : u2 = v2 <;> simp [h1, h2]) (laws_eqSaidS.l1 p q) (((p.length : Int) - 0).toNat + 2) (by omega) fun _ _ => rfl
def mSd (u : Sd) (c : Int) : Int × Sd := (c + 5 + u.2.2.2.2.2.length, (c, c + 1, c + 2, c + 3, c + 4, marks (c + 5) u.2.2.2.2.2.length))
def gSd (us : List Sd) (c : Int) : Prop := 0 ≤ c ∧ c + wSd us ≤ 1000000000000 ∧ okSds us
theorem gSd_step (u : Sd) (us : List Sd) (c : Int) (h : gSd (u :: us) c) : gSd us (mSd u c).1 := by
  obtain ⟨h0, h1, h2, h3⟩ := h
  rw [wSd_cons] at h1
  exact ⟨by simp only [mSd]; omega, by simp only [mSd]; omega, by simp at h2; omega, fun v hv => h3 v (List.mem_cons_of_mem _ hv)⟩
theorem p_markSaidS (d : List Sd) (c : Int) (hg : gSd d c) : laws_markSaidS.f d c = some (mAll mSd d c) := by
  unfold laws_markSaidS.f
  have := mark_loop d.length hg.2.2.1 mSd gSd gSd_step (laws_markSaidS.l1 d) (fun x c i K => (rd? x i).bind fun u246 => (st? x i (c, (u246.2.1, u246.2.2.1, u246.2.2.2.1, u246.2.2.2.2.1, u246.2.2.2.2.2))).bind fun x248 => (rd? x248 i).bind fun u251 => (st? x248 i (u251.1, (IntKind.i64.wrap (c + 1), u251.2.2.1, u251.2.2.2.1, u251.2.2.2.2.1, u251.2.2.2.2.2))).bind fun x253 => (rd? x253 i).bind fun u256 => (st? x253 i (u256.1, (u256.2.1, IntKind.i64.wrap ((IntKind.i64.wrap (c + 1)) + 1), u256.2.2.2.1, u256.2.2.2.2.1, u256.2.2.2.2.2))).bind fun x258 => (rd? x258 i).bind fun u261 => (st? x258 i (u261.1, (u261.2.1, u261.2.2.1, IntKind.i64.wrap ((IntKind.i64.wrap ((IntKind.i64.wrap (c + 1)) + 1)) + 1), u261.2.2.2.2.1, u261.2.2.2.2.2))).bind fun x263 => (rd? x263 i).bind fun u266 => (st? x263 i (u266.1, (u266.2.1, u266.2.2.1, u266.2.2.2.1, IntKind.i64.wrap ((IntKind.i64.wrap ((IntKind.i64.wrap ((IntKind.i64.wrap (c + 1)) + 1)) + 1)) + 1), u266.2.2.2.2.2))).bind fun x268 => (rd? x268 i).bind fun u270 => (laws_markIntS.f u270.2.2.2.2.2 (IntKind.i64.wrap ((IntKind.i64.wrap ((IntKind.i64.wrap ((IntKind.i64.wrap ((IntKind.i64.wrap (c + 1)) + 1)) + 1)) + 1)) + 1))).bind fun u282 => (st? x268 i (u270.1, (u270.2.1, u270.2.2.1, u270.2.2.2.1, u270.2.2.2.2.1, u282.2))).bind fun x284 => K x284 u282.1)
    (fun pre u us c K hg => by
      have hw := wSd_pos us
      obtain ⟨h0, h1, h2, h3⟩ := hg
      rw [wSd_cons] at h1
      have m := p_markIntS u.2.2.2.2.2 (c + 5) (by omega) (by omega) (h3 u (by simp))
      rw [wrapS (n := c + 1) (by omega) (by omega), wrapS (n := c + 1 + 1) (by omega) (by omega), wrapS (n := c + 1 + 1 + 1) (by omega) (by omega), wrapS (n := c + 1 + 1 + 1 + 1) (by omega) (by omega), wrapS (n := c + 1 + 1 + 1 + 1 + 1) (by omega) (by omega)]
      rw [show c + 1 + 1 = c + 2 by omega, show c + 2 + 1 = c + 3 by omega, show c + 3 + 1 = c + 4 by omega, show c + 4 + 1 = c + 5 by omega]
      simp only [rd_mid, st_mid, Option.bind_some, m]
      rfl) (fun _ _ _ _ => rfl) d [] c (((d.length : Int) - 0).toNat + 2) (by simp) (by omega) hg
  simp only [List.nil_append, List.length_nil] at this
  rw [show ((0 : Nat) : Int) = 0 from rfl] at this
  rw [this]
  rfl
theorem mSd_ge : ∀ (d : List Sd) (c : Int), (mAll mSd d c).1 = c + wSd d
  | [], c => by simp [mAll, wSd]
  | u :: us, c => by
    have := mSd_ge us (mSd u c).1
    simp only [mAll, this]
    simp only [mSd, wSd_cons]
    omega
theorem p_own (x : List Int) (hx : x.length ≤ big) : spec_l1Own.f x = some x := by
  unfold spec_l1Own.f
  unfold big at hx
  rw [app?_at (by simpa using hx)]
  rfl
theorem p_clone (x : List Int) (hx : x.length ≤ big) : slices_Clone_int_int.f x = some x := by
  unfold slices_Clone_int_int.f
  unfold big at hx
  rw [app?_at (by simpa using hx)]
  rfl
theorem p_l1In (a b c : Int) : spec_l1In.f a b c = some (decide (b ≤ a) && decide (a ≤ c)) := by
  unfold spec_l1In.f
  by_cases h : b ≤ a
  · rw [if_pos (by simpa using h)]; simp [h]
  · rw [if_neg (by simpa using h)]; simp [h]
theorem p_inRange (a b c : Int) : impl_inRange.f a b c = some (decide (b ≤ a) && decide (a ≤ c)) := by
  unfold impl_inRange.f
  by_cases h : b ≤ a
  · rw [if_pos (by simpa using h)]; simp [h]
  · rw [if_neg (by simpa using h)]; simp [h]
theorem p_LogOf (d : List Sd) (n : Int) (hd : okSds d) (hn : inK .i64 n) (hw : wSd d ≤ 10000000) : ∃ r : List Ev × Bool, impl_LogOf.f d n = some r ∧ spec_LogOf.f d n = some r ∧ okEvs r.1 ∧ r.1.length ≤ 2000 ∧ wEv r.1 ≤ 10000000 := by
  unfold impl_LogOf.f spec_LogOf.f impl_isPlace.f
  simp only [p_inRange, p_l1In, Option.bind_some]
  rw [wrapS (by omega) (by omega)]
  by_cases h1 : (d.length : Int) > 2000
  · rw [if_pos (by simpa using h1), if_pos (by simpa using h1)]
    exact ⟨_, rfl, rfl, ⟨by simp [big], by simp⟩, by simp, by simp [wEv]⟩
  rw [if_neg (by simpa using h1), if_neg (by simpa using h1)]
  have e4 : (4 : Int) - 1 = 3 := rfl
  rw [e4]
  cases h2 : (decide (0 ≤ n) && decide (n ≤ 3)) with
  | false => exact ⟨_, rfl, rfl, ⟨by simp [big], by simp⟩, by simp, by simp [wEv]⟩
  | true =>
    simp only [Bool.not_true, Option.bind_some, Bool.false_eq_true, if_false]
    have key : ∀ (k i : Nat) (out : List Ev), i ≤ d.length → d.length - i < k → out.length ≤ i → okEvs out → ∃ z : List Ev, impl_LogOf.l1 d n k out i = some z ∧ spec_LogOf.l1 d n k out i = some z ∧ okEvs z ∧ z.length ≤ d.length ∧ wEv z ≤ wEv out + wSd (d.drop i) := by
      intro k
      induction k with
      | zero => intro i out _ h; omega
      | succ k ih =>
        intro i out hi hk ho hok
        rw [impl_LogOf.l1, spec_LogOf.l1]
        by_cases h : i < d.length
        · rw [if_pos (by simpa using h), if_pos (by simpa using h), rd?_at h]
          have hu := hd.2 _ (List.getElem_mem h)
          rw [List.drop_eq_getElem_cons h, wSd_cons]
          simp only [Option.bind_some]
          by_cases hq : (d[i].1 == n) = true
          · rw [if_pos hq, if_pos hq]
            unfold spec_l17Event.f
            rw [p_own _ hu, p_clone _ hu]
            simp only [Option.bind_some]
            rw [app?_at (by simp; omega)]
            simp only [Option.bind_some]
            rw [wrapN i (by omega)]
            have hadd : ∀ (out : List Ev) (v : Ev), wEv (out ++ [v]) = wEv out + 4 + v.2.2.2.2.length := by
              intro out v
              induction out with
              | nil => simp [wEv]
              | cons u us ih => simp only [List.cons_append, wEv_cons, ih]; omega
            obtain ⟨z, z1, z2, z3, z4, z5⟩ := ih (i + 1) (out ++ [(d[i].2.1, d[i].2.2.1, d[i].2.2.2.1, d[i].2.2.2.2.1, d[i].2.2.2.2.2)]) h (by omega) (by simp; omega) ⟨by simp [big]; omega, fun v hv => by
              rcases List.mem_append.1 hv with hv | hv
              · exact hok.2 v hv
              · rw [List.mem_singleton.1 hv]; exact hu⟩
            refine ⟨z, z1, z2, z3, z4, ?_⟩
            rw [hadd] at z5
            simp only at z5
            omega
          · rw [if_neg hq, if_neg hq]
            simp only [Option.bind_some]
            rw [wrapN i (by omega)]
            obtain ⟨z, z1, z2, z3, z4, z5⟩ := ih (i + 1) out h (by omega) (by omega) hok
            exact ⟨z, z1, z2, z3, z4, by omega⟩
        · rw [if_neg (by simpa using h), if_neg (by simpa using h)]
          refine ⟨out, rfl, rfl, hok, by omega, ?_⟩
          rw [List.drop_eq_nil_of_le (by omega)]
          simp [wSd]
    obtain ⟨z, z1, z2, z3, z4, z5⟩ := key (((d.length : Int) - 0).toNat + 2) 0 [] (by omega) (by omega) (by simp) ⟨by simp [big], by simp⟩
    rw [show ((0 : Nat) : Int) = 0 from rfl] at z1 z2
    rw [z1, z2]
    rw [List.drop_zero] at z5
    have : wEv [] = 0 := rfl
    exact ⟨_, rfl, rfl, z3, by show z.length ≤ _; omega, by show wEv z ≤ _; omega⟩
theorem law_LogOf (d : List Sd) (n : Int) (hd : allW (fun a => inK .i64 a.1 ∧ inK .i64 a.2.1 ∧ inK .i64 a.2.2.1 ∧ inK .i64 a.2.2.2.1 ∧ inK .i64 a.2.2.2.2.1 ∧ allW (inK .i64) a.2.2.2.2.2) d) (hn : inK .i64 n) : laws_FnExactLogOf.f d n = some true := by
  unfold laws_FnExactLogOf.f
  obtain ⟨u, e, hu⟩ := p_szSaidS d hd.1 (fun u hu => (hd.2 u hu).2.2.2.2.2.1) 1048576 (by decide) (by decide)
  rw [e]
  simp only [Option.bind_some]
  by_cases h0 : u < 0
  · rw [if_pos (by simpa using h0)]
  rw [if_neg (by simpa using h0)]
  rcases hu with hu | ⟨_, hl⟩
  · exact absurd hu h0
  obtain ⟨hok, hl2, hl3⟩ := wSd_ok (d := d) (by omega)
  obtain ⟨r, e1, e2, e3, e4, e5⟩ := p_LogOf d n hok hn hl3
  have w0 := wSd_pos d
  have w2 := wEv_pos r.1
  have g1 : gSd d 1 := ⟨by omega, by omega, hok⟩
  have g2 : gEv r.1 1 := ⟨by omega, by omega, e3⟩
  have n1 : ¬ ((mAll mSd d 1).1 < 0) := by rw [mSd_ge]; omega
  have n2 : ¬ ((mAll mEv r.1 1).1 < 0) := by rw [mEv_ge]; omega
  simp [p_toSaidS d hok (by omega), e1, e2, p_eqSaidS d d hok, p_eqEventS r.1 r.1 e3, p_markSaidS d 1 g1, p_markEventS r.1 1 g2, p_heldEventS r.1 1 g2, n1, n2]
end Go.Proofs.Ytopecknfnhocpaa
