/- Plain laws of the printed functions. Conditions as each lemma says. -/
import Derived.Test.YtbeolahmnoeicaaGreatPLParsedq0
set_option linter.unusedVariables false
set_option linter.unusedSimpArgs false
namespace Go.Proofs.YtbeolahmnoeicaaGreat
open Go Go.Proofs.GL
section
variable {p : List Nd} {K : List (List Int)} {l : List Int}
theorem p_d3 (hp : p.length ≤ 1000) (hset : ∀ u ∈ p, u.2.length ≤ 1000 ∧ u.2.length % 2 = 0) (hpl : ∀ u ∈ p, u.1 ≠ 5 ∧ u.1 ≠ 7) (hl : l.length ≤ 1000) (hK : Kids p K p.length) {tb : List (List Int)} {c : Nat} (hk : c < p.length) (htb : TfC l.length (valC l p K) c tb) {f : Nat} (hf : f ≤ l.length) : ∀ (m t k : Nat) (fl : List Int), f ≤ t → t + m = l.length + 1 → m < k → FlatC l.length (valC l p K c) f t fl → ∃ fl', z1n.l3 p l tb (c : Int) p[c] (f : Int) k fl (t : Int) = some fl' ∧ FlatC l.length (valC l p K c) f (l.length + 1) fl' := by
 intro m
 induction m with
 | zero =>
  intro t k fl h1 h2 hk2 hV
  obtain ⟨k, rfl⟩ := Nat.exists_eq_succ_of_ne_zero (show k ≠ 0 by omega)
  rw [z1n.l3, y03 l.length (by omega), if_neg (by simp; omega)]
  obtain rfl : t = l.length + 1 := by omega
  exact ⟨fl, rfl, hV⟩
 | succ m ih =>
  intro t k fl h1 h2 hk2 hV
  obtain ⟨k, rfl⟩ := Nat.exists_eq_succ_of_ne_zero (show k ≠ 0 by omega)
  have htl : t ≤ l.length := by omega
  obtain ⟨v, q2, q3⟩ := p_sCell hp hset hl hK hk (hpl _ (List.getElem_mem hk)) htb hV h1 htl
  have hi : f * (l.length + 1) + t < fl.length := by rw [hV.1]; exact ix_lt hf htl
  have c1 : decide ((t : Int) < IntKind.i64.wrap ((l.length : Int) + 1)) = true := by rw [y03 l.length (by omega)]; simp; omega
  rw [z1n.l3, if_pos c1, q2]
  simp only [Option.bind_some]
  rw [l1LeastP, Int.min_comm, q3]
  simp only [Option.bind_some]
  rw [ix_flat hl hf htl, rd?_at hi]
  simp only [Option.bind_some]
  rw [st?_at _ hi]
  simp only [Option.bind_some]
  rw [y03 t (by omega)]
  refine ih (t + 1) k _ (by omega) (by omega) (by omega) ⟨by simpa using hV.1, fun r t' g1 g2 g3 => ?_⟩
  by_cases he : f * (l.length + 1) + t = r * (l.length + 1) + t'
  ·obtain ⟨rfl, rfl⟩ := ix_inj htl g2 he
   rw [List.getElem?_set_self hi]
  ·rw [List.getElem?_set_ne he]
   refine hV.2 r t' g1 g2 ?_
   rcases g3 with g3 | ⟨g3, g4⟩
   ·exact .inl g3
   ·subst g3
    exact .inr ⟨rfl, by have : t ≠ t' := fun h => he (by rw [h]); omega⟩
theorem p_d2 (hp : p.length ≤ 1000) (hset : ∀ u ∈ p, u.2.length ≤ 1000 ∧ u.2.length % 2 = 0) (hpl : ∀ u ∈ p, u.1 ≠ 5 ∧ u.1 ≠ 7) (hl : l.length ≤ 1000) (hK : Kids p K p.length) {tb : List (List Int)} {c : Nat} (hk : c < p.length) (htb : TfC l.length (valC l p K) c tb) : ∀ (q k : Nat) (fl : List Int), q ≤ l.length + 1 → q < k → FlatC l.length (valC l p K c) q (l.length + 1) fl → ∃ fl', z1n.l2 p l tb (c : Int) p[c] k fl ((q : Int) - 1) = some fl' ∧ FlatD l.length (valC l p K c) fl' := by
 intro q
 induction q with
 | zero =>
  intro k fl h1 hk2 hV
  obtain ⟨k, rfl⟩ := Nat.exists_eq_succ_of_ne_zero (show k ≠ 0 by omega)
  rw [z1n.l2, if_neg (by decide)]
  exact ⟨fl, rfl, hV.all⟩
 | succ q ih =>
  intro k fl h1 hk2 hV
  obtain ⟨k, rfl⟩ := Nat.exists_eq_succ_of_ne_zero (show k ≠ 0 by omega)
  rw [show ((q + 1 : Nat) : Int) - 1 = (q : Int) by omega, z1n.l2, if_pos (by simp), y03 l.length (by omega)]
  obtain ⟨fl', e1, e2⟩ := p_d3 hp hset hpl hl hK hk htb (f := q) (by omega) (l.length + 1 - q) q ((((l.length + 1 : Nat) : Int) - (q : Int)).toNat + 2) fl (Nat.le_refl _) (by omega) (by omega) (hV.last q rfl)
  rw [e1]
  simp only [Option.bind_some]
  rw [yv (by omega) (by omega)]
  exact ih k fl' (by omega) (by omega) e2
theorem p_d1 (hp : p.length ≤ 1000) (hset : ∀ u ∈ p, u.2.length ≤ 1000 ∧ u.2.length % 2 = 0) (hpl : ∀ u ∈ p, u.1 ≠ 5 ∧ u.1 ≠ 7) (hl : l.length ≤ 1000) (hK : Kids p K p.length) : ∀ (m k : Nat) (tb : List (List Int)), tb.length + m = p.length → m < k → TfC l.length (valC l p K) tb.length tb → ∃ tb', z1n.l1 p l k tb (tb.length : Int) = some tb' ∧ tb'.length = p.length ∧ TfC l.length (valC l p K) p.length tb' := by
 intro m
 induction m with
 | zero =>
  intro k tb h1 hk htb
  obtain ⟨k, rfl⟩ := Nat.exists_eq_succ_of_ne_zero (show k ≠ 0 by omega)
  rw [z1n.l1, if_neg (by simp; omega)]
  exact ⟨tb, rfl, by omega, by rw [← show tb.length = p.length by omega]; exact htb⟩
 | succ m ih =>
  intro k tb h1 hk htb
  obtain ⟨k, rfl⟩ := Nat.exists_eq_succ_of_ne_zero (show k ≠ 0 by omega)
  have hc : tb.length < p.length := by omega
  have hb : (l.length + 1) * (l.length + 1) ≤ 1001 * 1001 := Nat.mul_le_mul (by omega) (by omega)
  have hw : IntKind.i64.wrap (((l.length + 1 : Nat) : Int) * ((l.length + 1 : Nat) : Int)) = (((l.length + 1) * (l.length + 1) : Nat) : Int) := by
   rw [← Int.natCast_mul]
   exact yv (by omega) (by omega)
  rw [z1n.l1, if_pos (by simp; omega), rd?_at hc]
  simp only [Option.bind_some]
  rw [y03 l.length (by omega), hw, mk?_at (by omega)]
  simp only [Option.bind_some]
  rw [yv (n := ((l.length + 1 : Nat) : Int) - 1) (by omega) (by omega)]
  obtain ⟨fl', e1, e2⟩ := p_d2 hp hset hpl hl hK hc htb (l.length + 1) ((((l.length + 1 : Nat) : Int) - 1 - 0).toNat + 2) (List.replicate ((l.length + 1) * (l.length + 1)) 0) (Nat.le_refl _) (by omega) ⟨by simp, fun f t h1 h2 h3 => by omega⟩
  rw [e1]
  simp only [Option.bind_some]
  rw [app?_at (by simp; omega)]
  simp only [Option.bind_some]
  rw [y03 tb.length (by omega)]
  have := ih k (tb ++ [fl']) (by simp; omega) (by omega) (by
   rw [List.length_append, List.length_singleton]
   intro d hd
   by_cases hct : d < tb.length
   ·obtain ⟨x, x1, x2⟩ := htb d hct
    exact ⟨x, by rw [List.getElem?_append_left hct]; exact x1, x2⟩
   ·obtain rfl : d = tb.length := by omega
    exact ⟨fl', by rw [List.getElem?_append_right (Nat.le_refl _)]; simp, e2⟩)
  rw [List.length_append, List.length_singleton] at this
  exact this
theorem p_specCounts (hp : p.length ≤ 1000) (hset : ∀ u ∈ p, u.2.length ≤ 1000 ∧ u.2.length % 2 = 0) (hpl : ∀ u ∈ p, u.1 ≠ 5 ∧ u.1 ≠ 7) (hl : l.length ≤ 1000) (hK : Kids p K p.length) : ∃ tb, z1n.f p l = some tb ∧ tb.length = p.length ∧ TfC l.length (valC l p K) p.length tb := by
 obtain ⟨tb, e1, e2, e3⟩ := p_d1 hp hset hpl hl hK p.length (((p.length : Int) - 0).toNat + 2) [] (by simp) (by omega) (fun c hc => by simp at hc)
 refine ⟨tb, ?_, e2, e3⟩
 unfold z1n.f
 rw [show (([] : List (List Int)).length : Int) = 0 from rfl] at e1
 rw [e1]
 rfl
end
def marks (k : Int) (n : Nat) : List Int := (List.range n).map fun i : Nat => k + i
theorem marks_len (k : Int) (n : Nat) : (marks k n).length = n := by simp [marks]
theorem marks_get (k : Int) (n i : Nat) (h : i < n) : (marks k n)[i]? = some (k + i) := by simp [marks, h]
def w_Re (u : (Int) × (List (Int))) : Int := (wL wZ) u.2
def okw_Re (u : (Int) × (List (Int))) : Prop := (okL okZ) u.2
theorem w_Re_pos (u : (Int) × (List (Int))) : 0 ≤ w_Re u := by
 unfold w_Re
 have := (wL_pos wZ_pos) u.2
 omega
def w_Span (u : (Int) × (Int) × (Int)) : Int := 0
def okw_Span (u : (Int) × (Int) × (Int)) : Prop := True
theorem w_Span_pos (u : (Int) × (Int) × (Int)) : 0 ≤ w_Span u := by
 unfold w_Span
 exact Int.le_refl _
theorem filS_pos {u : Sp} {us : List Sp} {n : Int} (h : (u.1 == n) = true) : (u :: us).filter (fun u => u.1 == n) = u :: us.filter (fun u => u.1 == n) := List.filter_cons_of_pos (p := fun u : Sp => u.1 == n) h
theorem filS_neg {u : Sp} {us : List Sp} {n : Int} (h : ¬ (u.1 == n) = true) : (u :: us).filter (fun u => u.1 == n) = us.filter (fun u => u.1 == n) := List.filter_cons_of_neg (p := fun u : Sp => u.1 == n) h
theorem p_keepSpans (p : List Sp) (n : Int) (hp : p.length ≤ 200) : z26.l1 p n (((p.length : Int) - 0).toNat + 2) [] 0 = some (p.filter fun u => u.1 == n) := by
 have key : ∀ (rest pre out : List Sp), pre.length + rest.length ≤ 200 → out.length ≤ pre.length → ∀ k, rest.length < k → z26.l1 (pre ++ rest) n k out pre.length = some (out ++ rest.filter fun u => u.1 == n) := by
  intro rest
  induction rest with
  | nil =>
   intro pre out hb ho k hk
   obtain ⟨k, rfl⟩ := Nat.exists_eq_succ_of_ne_zero (show k ≠ 0 by omega)
   rw [z26.l1, if_neg (by simp)]
   simp
  | cons u us ih =>
   intro pre out hb ho k hk
   obtain ⟨k, rfl⟩ := Nat.exists_eq_succ_of_ne_zero (show k ≠ 0 by omega)
   simp only [List.length_cons] at hb hk
   rw [z26.l1, if_pos (by rw [decide_eq_true_eq]; simp only [List.length_append, List.length_cons]; omega), rd_mid]
   simp only [Option.bind_some]
   have step : ∀ out' : List Sp, out'.length ≤ pre.length + 1 → z26.l1 (pre ++ u :: us) n k out' (IntKind.i64.wrap ((pre.length : Int) + 1)) = some (out' ++ us.filter fun u => u.1 == n) := by
    intro out' h
    rw [y03 pre.length (by omega)]
    have := ih (pre ++ [u]) out' (by simp; omega) (by simp; omega) k (by omega)
    simp only [List.length_append, List.length_cons, List.length_nil, Nat.zero_add, List.append_assoc, List.cons_append, List.nil_append] at this
    exact this
   by_cases h : (u.1 == n) = true
   ·rw [if_pos h, app?_at (by simp; omega)]
    simp only [Option.bind_some]
    rw [step _ (by simp; omega), filS_pos h]
    simp
   ·rw [if_neg h]
    simp only [Option.bind_some]
    rw [step _ (by omega), filS_neg h]
 have := key p [] [] (by simpa using hp) (Nat.le_refl _) (((p.length : Int) - 0).toNat + 2) (by omega)
 rw [List.nil_append, show ((([] : List Sp).length : Nat) : Int) = 0 from rfl] at this
 rw [this]
 rfl
theorem p_delIdx (p : List Sp) (n : Int) (hp : p.length ≤ big) : z1z.f p n = some (match p.findIdx? (fun u => u.1 != n) with | some j => (j : Int) | none => -1) := by
 unfold z1z.f
 have := scan_loop p hp (fun u => u.1 != n) (fun i _ => i) (z1z.l1 p n) (fun k i => by rw [z1z.l1]; simp only [z1y.f, Option.bind_some]) (((p.length : Int) - 0).toNat + 2) 0 (by omega) (by omega)
 rw [show ((0 : Nat) : Int) = 0 from rfl] at this
 rw [this, List.drop_zero]
 cases hf : p.findIdx? (fun u => u.1 != n) with
 | none => rfl
 | some j =>
  obtain ⟨hj, h1, h2⟩ := List.findIdx?_eq_some_iff_getElem.1 hf
  simp [hj]
/-- What is kept moves to the front. -/
theorem p_delLoop (n : Int) (N : Nat) (hN : N ≤ 200) : ∀ (rest mid pre d : List Sp), d.length = N → pre.length + mid.length + rest.length = N → mid ≠ [] → ∀ k, rest.length < k →
  ∃ tail, z20.l1 d n k (pre ++ mid ++ rest) pre.length ((pre.length + mid.length : Nat) : Int) = some (pre ++ (rest.filter fun u => u.1 == n) ++ tail, ((pre.length + (rest.filter fun u => u.1 == n).length : Nat) : Int)) ∧ pre.length + (rest.filter fun u => u.1 == n).length + tail.length = N := by
 intro rest
 induction rest with
 | nil =>
  intro mid pre d hd hl hm k hk
  obtain ⟨k, rfl⟩ := Nat.exists_eq_succ_of_ne_zero (show k ≠ 0 by omega)
  refine ⟨mid, ?_, by simpa using hl⟩
  rw [z20.l1, if_neg (by simp at hl ⊢; omega)]
  simp
 | cons u us ih =>
  intro mid pre d hd hl hm k hk
  obtain ⟨k, rfl⟩ := Nat.exists_eq_succ_of_ne_zero (show k ≠ 0 by omega)
  simp only [List.length_cons] at hl hk
  have hx : rd? (pre ++ mid ++ u :: us) ((pre.length + mid.length : Nat) : Int) = some u := by
   have := rd_mid (pre ++ mid) u us
   rwa [List.length_append] at this
  rw [z20.l1, if_pos (by rw [decide_eq_true_eq]; omega), hx]
  simp only [Option.bind_some, z1y.f]
  by_cases h : u.1 = n
  ·have h1 : (u.1 == n) = true := by simpa using h
   have h2 : (u.1 != n) = false := by simpa using h
   rw [h2]
   simp only [Bool.not_false, if_true]
   obtain ⟨m, ms, rfl⟩ := List.exists_cons_of_ne_nil hm
   have ha : pre ++ (m :: ms) ++ u :: us = pre ++ m :: (ms ++ u :: us) := by simp
   rw [ha, rd_mid]
   simp only [Option.bind_some]
   rw [st_mid]
   simp only [Option.bind_some]
   have hw : IntKind.i64.wrap (((pre.length + (m :: ms).length : Nat) : Int) + 1) = (((pre ++ [u]).length + (ms ++ [u]).length : Nat) : Int) := by
    rw [yv (by omega) (by omega)]
    simp
    omega
   have hw2 : IntKind.i64.wrap ((pre.length : Int) + 1) = ((pre ++ [u]).length : Int) := by
    rw [yv (by omega) (by omega)]; simp
   rw [hw, hw2]
   have hb : pre ++ (u.1, u.2.1, u.2.2) :: (ms ++ u :: us) = (pre ++ [u]) ++ (ms ++ [u]) ++ us := by simp
   rw [hb]
   obtain ⟨tail, t1, t2⟩ := ih (ms ++ [u]) (pre ++ [u]) d hd (by simp at hl ⊢; omega) (by simp) k (by omega)
   refine ⟨tail, ?_, ?_⟩
   ·rw [t1, filS_pos h1]
    simp
    omega
   ·rw [filS_pos h1]
    simp at t2 ⊢
    omega
  ·have h1 : ¬ (u.1 == n) = true := by simpa using h
   have h2 : (u.1 != n) = true := by simpa using h
   rw [h2]
   simp only [Bool.not_true, Bool.false_eq_true, if_false, Option.bind_some]
   have hw : IntKind.i64.wrap (((pre.length + mid.length : Nat) : Int) + 1) = ((pre.length + (mid ++ [u]).length : Nat) : Int) := by
    rw [yv (by omega) (by omega)]
    simp
    omega
   rw [hw]
   have hb : pre ++ mid ++ u :: us = pre ++ (mid ++ [u]) ++ us := by simp
   rw [hb]
   obtain ⟨tail, t1, t2⟩ := ih (mid ++ [u]) pre d hd (by simp; omega) (by simp) k (by omega)
   rw [filS_neg h1]
   exact ⟨tail, t1, t2⟩
theorem p_delete (p : List Sp) (n : Int) (hp : p.length ≤ 200) : z20.f p n = some (p.filter fun u => u.1 == n) := by
 unfold z20.f
 rw [p_delIdx p n (by unfold big; omega)]
 simp only [Option.bind_some]
 cases hf : p.findIdx? (fun u => u.1 != n) with
 | none =>
  rw [if_pos (by decide)]
  rw [List.findIdx?_eq_none_iff] at hf
  congr 1
  symm
  rw [List.filter_eq_self]
  intro u hu
  have := hf u hu
  simpa using this
 | some j =>
  obtain ⟨hj, h1, h2⟩ := List.findIdx?_eq_some_iff_getElem.1 hf
  rw [if_neg (by simp <;> omega)]
  have hp1 : p = p.take j ++ [p[j]] ++ p.drop (j + 1) := by
   rw [List.append_assoc]
   show p = p.take j ++ p[j] :: p.drop (j + 1)
   rw [← List.drop_eq_getElem_cons hj, List.take_append_drop]
  have hlt : (p.take j).length = j := by simp; omega
  rw [y03 j (by omega)]
  obtain ⟨tail, t1, t2⟩ := p_delLoop n p.length hp (p.drop (j + 1)) [p[j]] (p.take j) p rfl (by simp; omega) (by simp) ((((p.length : Int)) - ((j + 1 : Nat) : Int)).toNat + 2) (by simp; omega)
  rw [← hp1, hlt] at t1
  simp only [List.length_singleton] at t1
  rw [t1]
  simp only [Option.bind_some]
  rw [hlt] at t2
  generalize hq : (p.drop (j + 1)).filter (fun u => u.1 == n) = q at t1 t2 ⊢
  have hfil : p.filter (fun u => u.1 == n) = p.take j ++ q := by
   rw [← hq]
   conv => lhs; rw [hp1]
   rw [List.filter_append, List.filter_append]
   have e1 : (p.take j).filter (fun u => u.1 == n) = p.take j := by
    rw [List.filter_eq_self]
    intro u hu
    obtain ⟨i, hi, rfl⟩ := List.mem_iff_getElem.1 hu
    rw [List.length_take] at hi
    rw [List.getElem_take]
    have := h2 i (by omega)
    simpa using this
   have e2 : [p[j]].filter (fun u => u.1 == n) = [] := by
    rw [filS_neg (by simpa using h1)]
    rfl
   rw [e1, e2, List.append_nil]
  have hlen : ((p.take j ++ q).length) = j + q.length := by simp; omega
  have hcl : (p.take j ++ q ++ tail).length = p.length := by rw [List.length_append, hlen]; omega
  have c1 := cut?_at (xs := p.take j ++ q ++ tail) (a := j + q.length) (b := (p.take j ++ q ++ tail).length) (by rw [hcl]; omega) (Nat.le_refl _)
  rw [c1]
  simp only [Option.bind_some, Int.toNat_natCast]
  have c2 : (cpy (p.take j ++ q ++ tail) (j + q.length) ((p.take j ++ q ++ tail).take (p.take j ++ q ++ tail).length |>.drop (j + q.length)).length (List.replicate ((p.take j ++ q ++ tail).take (p.take j ++ q ++ tail).length |>.drop (j + q.length)).length (0, 0, 0))).take (j + q.length) = p.take j ++ q := by
   unfold cpy
   rw [List.append_assoc (List.take _ _), List.take_append_of_le_length (by simp; omega), List.take_take, Nat.min_self, ← hlen, List.take_append_of_le_length (Nat.le_refl _), List.take_length]
  have c3 := cut?_at (xs := cpy (p.take j ++ q ++ tail) (j + q.length) ((p.take j ++ q ++ tail).take (p.take j ++ q ++ tail).length |>.drop (j + q.length)).length (List.replicate ((p.take j ++ q ++ tail).take (p.take j ++ q ++ tail).length |>.drop (j + q.length)).length (0, 0, 0))) (a := 0) (b := j + q.length) (by omega) (by unfold cpy; simp; omega)
  rw [show ((0 : Nat) : Int) = 0 from rfl] at c3
  rw [c3, c2, hfil]
  rfl
theorem p_SpansOf (p : List Nd) (s : List Sp) (n : Int) (hp : p.length ≤ big) (hq : ∀ u ∈ p, u.2.length ≤ big) (hs : s.length ≤ big) : ∃ r : List Sp × Bool, z21.f p s n = some r ∧ z26.f p s n = some r ∧ r.1.length ≤ 200 := by
 unfold z21.f z26.f
 rw [p_implRe p hp hq, p_specPlain p hp hq, p_implPlain p hp]
 simp only [Option.bind_some]
 cases h1 : okRe p with
 | false => exact ⟨([], false), rfl, rfl, by simp⟩
 | true =>
  cases h2 : p.all okPl with
  | false => exact ⟨([], false), rfl, rfl, by simp⟩
  | true =>
   simp only [Bool.not_true, Bool.false_eq_true, if_false, Bool.and_self]
   by_cases h3 : (s.length : Int) > 200
   ·rw [if_pos (by simpa using h3), if_pos (by simpa using h3)]
    exact ⟨([], false), rfl, rfl, by simp⟩
   ·rw [if_neg (by simpa using h3), if_neg (by simpa using h3)]
    have hl : p.length ≤ 40 := by
     unfold okRe at h1
     simp only [Bool.and_eq_true, decide_eq_true_eq] at h1
     omega
    unfold z1w.f
    rw [yv (n := (p.length : Int) - 1) (by omega) (by omega)]
    simp only [p_inRange, p_l1In, Option.bind_some]
    cases h4 : (decide (0 ≤ n) && decide (n ≤ (p.length : Int) - 1)) with
    | false => exact ⟨([], false), rfl, rfl, by simp⟩
    | true =>
     simp only [Bool.not_true, Bool.false_eq_true, if_false]
     unfold z1x.f
     rw [app?_at (by simp; omega)]
     simp only [Option.bind_some, List.nil_append]
     rw [p_delete s n (by omega)]
     have := p_keepSpans s n (by omega)
     rw [this]
     refine ⟨(s.filter fun u => u.1 == n, true), rfl, rfl, ?_⟩
     have := List.length_filter_le (fun u : Sp => u.1 == n) s
     show (s.filter fun u => u.1 == n).length ≤ _
     omega
theorem cut0 {x : List Int} {n : Nat} (h : n ≤ x.length) : cut? x 0 (n : Int) = some (x.take n) := by
 have := cut?_at (xs := x) (a := 0) (b := n) (by omega) h
 rw [show ((0 : Nat) : Int) = 0 from rfl] at this
 simpa using this
theorem cutE {x : List Int} {n : Nat} (h : n ≤ x.length) : cut? x (n : Int) (x.length : Int) = some (x.drop n) := by
 have := cut?_at (xs := x) (a := n) (b := x.length) h (by omega)
 simpa using this
/-- The bytes of a rune. -/
def u8s (r : Int) : List Int := if r < 128 then [r] else if r < 2048 then [192 + r / 64, 128 + r % 64] else if r < 65536 then [224 + r / 4096, 128 + r / 64 % 64, 128 + r % 64] else [240 + r / 262144, 128 + r / 4096 % 64, 128 + r / 64 % 64, 128 + r % 64]
theorem u8s_len (r : Int) : (u8s r).length ≤ 4 := by
 unfold u8s
 split
 ·simp
 ·split
  ·simp
  ·split <;> simp
theorem bytes_text : ∀ (xs : List Int), (∀ u ∈ xs, 0 ≤ u ∧ u < 256) → bytesB (textB xs) = xs := by
 have key : ∀ (xs : List Int) (s : ByteArray), (∀ u ∈ xs, 0 ≤ u ∧ u < 256) → bytesB (xs.foldl (fun s n => s.push (UInt8.ofNat n.toNat)) s) = bytesB s ++ xs := by
  intro xs
  induction xs with
  | nil => intro s _; simp
  | cons x xs ih =>
   intro s h
   obtain ⟨h0, h1⟩ := h x (by simp)
   rw [List.foldl_cons, ih _ fun v hv => h v (List.mem_cons_of_mem _ hv)]
   have e : bytesB (s.push (UInt8.ofNat x.toNat)) = bytesB s ++ [x] := by
    unfold bytesB
    simp [ByteArray.push]
    omega
   rw [e, List.append_assoc]
   rfl
 intro xs h
 unfold textB
 rw [key xs _ h]
 rfl
theorem quo_pos {r n : Int} (h0 : 0 ≤ r) (h1 : r ≤ 2000000) (hn : 1 ≤ n) (hn2 : n ≤ 1000000) : quo? .i64 r n = some (r / n) := by
 unfold quo?
 have h2 : r / n ≤ r := Int.ediv_le_self _ h0
 have h3 : 0 ≤ r / n := Int.ediv_nonneg h0 (by omega)
 rw [if_neg (by omega), Int.tdiv_eq_ediv_of_nonneg h0, yv (by omega) (by omega)]
theorem rem_pos {r n : Int} (h0 : 0 ≤ r) (hn : 1 ≤ n) : rem? r n = some (r % n) := by
 unfold rem?
 rw [if_neg (by omega), Int.tmod_eq_emod_of_nonneg h0]
theorem w8 {n : Int} (h0 : 0 ≤ n) (h1 : n ≤ 255) : IntKind.u8.wrap n = n := by rw [IntKind.wrap_u8]; omega
theorem u8s_in {r : Int} (h0 : 0 ≤ r) (h1 : r ≤ 1114111) : ∀ u ∈ u8s r, 0 ≤ u ∧ u < 256 := by
 unfold u8s
 intro u hu
 split at hu
 ·simp at hu; omega
 ·split at hu
  ·simp at hu; omega
  ·split at hu
   ·simp at hu; omega
   ·simp at hu; omega
theorem b_and63 (n : Int) (h0 : 0 ≤ n) (h1 : n < 256) : bits .and .u8 n 63 = n % 64 := by
 obtain ⟨k, rfl⟩ := Int.eq_ofNat_of_zero_le h0
 have : ∀ k : Nat, k < 256 → bits .and .u8 (k : Int) 63 = (k : Int) % 64 := by decide +kernel
 exact this k (by omega)
theorem b_or128 (n : Int) (h0 : 0 ≤ n) (h1 : n < 64) : bits .or .u8 128 n = 128 + n := by
 obtain ⟨k, rfl⟩ := Int.eq_ofNat_of_zero_le h0
 have : ∀ k : Nat, k < 64 → bits .or .u8 128 (k : Int) = 128 + (k : Int) := by decide +kernel
 exact this k (by omega)
theorem b_or192 (n : Int) (h0 : 0 ≤ n) (h1 : n < 32) : bits .or .u8 192 n = 192 + n := by
 obtain ⟨k, rfl⟩ := Int.eq_ofNat_of_zero_le h0
 have : ∀ k : Nat, k < 32 → bits .or .u8 192 (k : Int) = 192 + (k : Int) := by decide +kernel
 exact this k (by omega)
theorem b_or224 (n : Int) (h0 : 0 ≤ n) (h1 : n < 16) : bits .or .u8 224 n = 224 + n := by
 obtain ⟨k, rfl⟩ := Int.eq_ofNat_of_zero_le h0
 have : ∀ k : Nat, k < 16 → bits .or .u8 224 (k : Int) = 224 + (k : Int) := by decide +kernel
 exact this k (by omega)
theorem b_or240 (n : Int) (h0 : 0 ≤ n) (h1 : n < 8) : bits .or .u8 240 n = 240 + n := by
 obtain ⟨k, rfl⟩ := Int.eq_ofNat_of_zero_le h0
 have : ∀ k : Nat, k < 8 → bits .or .u8 240 (k : Int) = 240 + (k : Int) := by decide +kernel
 exact this k (by omega)
theorem b_cont (q : Int) : bits .or .u8 128 (bits .and .u8 (IntKind.u8.wrap q) 63) = 128 + q % 64 := by
 have e : IntKind.u8.wrap q = q % 256 := by rw [IntKind.wrap_u8]
 rw [e, b_and63 _ (by omega) (by omega), b_or128 _ (by omega) (by omega)]
 omega
theorem shr32 (r : Int) (k : Nat) (hk : k ≤ 20) : shrK? .i32 r (k : Int) = some (r / 2 ^ k) := by
 unfold shrK?
 have e : min ((k : Int)).toNat IntKind.i32.bits = k := by
  have : IntKind.i32.bits = 32 := rfl
  rw [this]
  omega
 rw [if_pos (by omega), e, Int.fdiv_eq_ediv_of_nonneg _ (by exact Int.pow_nonneg (by omega))]
theorem baT (b : ByteArray) : b.toList = b.data.toList := by
 have key : ∀ (k i : Nat) (r : List UInt8), b.size - i ≤ k → ByteArray.toList.loop b i r = r.reverse ++ b.data.toList.drop i := by
  intro k
  induction k with
  | zero =>
   intro i r h
   rw [ByteArray.toList.loop]
   rw [if_neg (by omega)]
   rw [List.drop_of_length_le (by simp; have : b.data.size = b.size := rfl; omega)]
   simp
  | succ k ih =>
   intro i r h
   rw [ByteArray.toList.loop]
   by_cases hi : i < b.size
   ·rw [if_pos hi, ih (i+1) _ (by omega)]
    have hs : i < b.data.toList.length := by simpa using hi
    rw [List.drop_eq_getElem_cons hs]
    have e : b.get! i = b.data.toList[i] := by
     have h2 : i < b.data.size := hi
     show b.data[i]! = _
     rw [getElem!_pos b.data i h2]
     simp
    simp [e]
   ·rw [if_neg hi, List.drop_of_length_le (by simp; have : b.data.size = b.size := rfl; omega)]
    simp
 have := key b.size 0 [] (by omega)
 simpa [ByteArray.toList] using this
theorem baInj {a b : ByteArray} : (a.toList == b.toList) = decide (a = b) := by
 rw [baT, baT, Bool.eq_iff_iff]
 simp only [beq_iff_eq, decide_eq_true_eq]
 constructor
 ·intro h
  obtain ⟨⟨x⟩⟩ := a
  obtain ⟨⟨y⟩⟩ := b
  simp at h
  rw [h]
 ·rintro rfl; rfl
theorem rdS_at (S : ByteArray) (i : Nat) : rdS? S (i : Int) = (bytesB S)[i]? := by
 unfold rdS? bytesB
 rw [if_pos (by omega), List.getElem?_map, Array.getElem?_toList]
 rfl
theorem bytesB_inj {a b : ByteArray} (h : bytesB a = bytesB b) : a = b := by
 obtain ⟨⟨x⟩⟩ := a
 obtain ⟨⟨y⟩⟩ := b
 unfold bytesB at h
 have h2 : x = y := by
  have key : ∀ x y : List UInt8, x.map (fun b : UInt8 => (b.toNat : Int)) = y.map (fun b : UInt8 => (b.toNat : Int)) → x = y := by
   intro x
   induction x with
   | nil => intro y h; cases y with
    | nil => rfl
    | cons _ _ => cases h
   | cons u x ih =>
    intro y h
    cases y with
    | nil => cases h
    | cons v y =>
     simp only [List.map_cons, List.cons.injEq] at h
     have : u = v := UInt8.toNat_inj.1 (by omega)
     rw [this, ih y h.2]
  exact key x y h
 rw [h2]
theorem strB (a b : ByteArray) : (a.toList == b.toList) = decide (bytesB a = bytesB b) := by
 rw [baInj, Bool.eq_iff_iff]
 simp only [decide_eq_true_eq]
 exact ⟨fun h => by rw [h], bytesB_inj⟩
theorem bytes_rng (S : ByteArray) : ∀ u ∈ bytesB S, 0 ≤ u ∧ u < 256 := by
 unfold bytesB
 intro u hu
 obtain ⟨b, _, rfl⟩ := List.mem_map.1 hu
 have := b.toNat_lt
 omega
theorem bytes_nil : bytesB (⟨#[]⟩ : ByteArray) = [] := rfl
theorem size_bytes (S : ByteArray) : S.size = (bytesB S).length := (bytesB_len S).symm
theorem cutS_at (S : ByteArray) {a b : Nat} (h1 : a ≤ b) (h2 : b ≤ S.size) : ∃ T, cutS? S (a : Int) (b : Int) = some T ∧ bytesB T = ((bytesB S).take b).drop a := by
 unfold cutS?
 rw [if_pos ⟨by omega, by omega, by omega⟩]
 refine ⟨_, rfl, ?_⟩
 unfold bytesB
 simp [ByteArray.data_extract, List.extract_eq_take_drop, List.map_drop, List.map_take, List.drop_take]
theorem cat_at {n : Nat} {a b : ByteArray} (h : a.size + b.size ≤ n) : ∃ c, cat? n a b = some c ∧ bytesB c = bytesB a ++ bytesB b := by
 unfold cat?
 rw [if_pos h]
 refine ⟨_, rfl, ?_⟩
 unfold bytesB
 simp
theorem wrapU (n : Int) : 0 ≤ IntKind.u64.wrap n ∧ IntKind.u64.wrap n < 18446744073709551616 := by rw [IntKind.wrap_u64]; omega
theorem p_next (code : List Int) (hc : allW (inK .u8) code) (a s : Int) (h0 : 0 ≤ a) (h1 : a ≤ 1000000000000000) : ∃ n s', z5.f code a s = some (n, a + 1, s') ∧ 0 ≤ n ∧ n ≤ 255 := by
 unfold z5.f
 have key : ∃ x : Int, (if (decide (a < (code.length : Int))) = true then ((rd? code a).bind fun u10 => some (IntKind.i64.wrap u10)) else (some 0)) = some x ∧ 0 ≤ x ∧ x ≤ 255 := by
  obtain ⟨k, rfl⟩ := Int.eq_ofNat_of_zero_le h0
  by_cases h : k < code.length
  ·rw [if_pos (by simpa using h), rd?_at h]
   have hb : -0 ≤ code[k] ∧ code[k] ≤ 255 := by
    have := hc.2 _ (List.getElem_mem h)
    exact this
   simp only [Option.bind_some]
   rw [yv (by omega) (by omega)]
   exact ⟨_, rfl, by omega, by omega⟩
  ·rw [if_neg (by simpa using h)]
   exact ⟨0, rfl, by omega, by omega⟩
 obtain ⟨x, e, x0, x1⟩ := key
 rw [e]
 simp only [Option.bind_some]
 rw [yv (n := a + 1) (by omega) (by omega)]
 generalize IntKind.u64.wrap (IntKind.u64.wrap (IntKind.u64.wrap (s * 6364136223846793005) + IntKind.u64.wrap x) + 1442695040888963407) = y
 by_cases h : a + 1 ≤ (code.length : Int)
 ·rw [if_pos (by simpa using h)]
  exact ⟨x, y, rfl, x0, x1⟩
 ·rw [if_neg (by simpa using h)]
  have hs : ∃ q, shrK? .u64 y 40 = some q := ⟨_, by unfold shrK?; rw [if_pos (by decide)]⟩
  obtain ⟨q, hq⟩ := hs
  rw [hq]
  simp only [Option.bind_some]
  have hb : 0 ≤ bits .and .u64 q 255 ∧ bits .and .u64 q 255 ≤ 255 := by
   unfold bits
   dsimp only
   have : (BitVec.ofInt IntKind.u64.bits q &&& BitVec.ofInt IntKind.u64.bits 255).toNat ≤ 255 := by
    rw [BitVec.toNat_and]
    exact Nat.le_trans Nat.and_le_right (by decide)
   rw [IntKind.wrap_u64]
   omega
  rw [yv (by omega) (by omega)]
  exact ⟨_, y, rfl, hb.1, hb.2⟩
theorem p_pick (code : List Int) (hc : allW (inK .u8) code) (a s n : Int) (h0 : 0 ≤ a) (h1 : a ≤ 1000000000000) : ∃ r a' s', z6.f code a s n = some (r, a', s') ∧ 0 ≤ r ∧ (1 ≤ n → r < n) ∧ (n ≤ 1 → r = 0) ∧ r ≤ 65535 ∧ a ≤ a' ∧ a' ≤ a + 2 := by
 unfold z6.f
 by_cases hn : n ≤ 1
 ·rw [if_pos (by simpa using hn)]
  exact ⟨0, a, s, rfl, by omega, by omega, by omega, by omega, by omega, by omega⟩
 ·rw [if_neg (by simpa using hn)]
  obtain ⟨x, s1, e1, x0, x1⟩ := p_next code hc a s h0 (by omega)
  rw [e1]
  simp only [Option.bind_some]
  have key : ∀ (v a' s' : Int), 0 ≤ v → v ≤ 65535 → a ≤ a' → a' ≤ a + 2 → ∃ r b' t', (rem? v n).bind (fun u20 => some (u20, a', s')) = some (r, b', t') ∧ 0 ≤ r ∧ (1 ≤ n → r < n) ∧ (n ≤ 1 → r = 0) ∧ r ≤ 65535 ∧ a ≤ b' ∧ b' ≤ a + 2 := by
   intro v a' s' v0 v1 b0 b1
   unfold rem?
   rw [if_neg (by omega)]
   have e := Int.tmod_eq_emod_of_nonneg (b := n) v0
   have hb := Int.emod_lt_of_pos v (show 0 < n by omega)
   have hb0 := Int.emod_nonneg v (show n ≠ 0 by omega)
   have hb1 : v % n ≤ v := by
    by_cases hvn : v < n
    ·rw [Int.emod_eq_of_lt v0 hvn]; exact Int.le_refl _
    ·omega
   rw [e]
   exact ⟨_, a', s', rfl, hb0, fun _ => hb, by omega, by omega, b0, b1⟩
  by_cases h2 : n > 200
  ·rw [if_pos (by simpa using h2)]
   obtain ⟨y, s2, e2, y0, y1⟩ := p_next code hc (a + 1) s1 (by omega) (by omega)
   rw [e2]
   simp only [Option.bind_some]
   rw [yv (n := x * 256) (by omega) (by omega), yv (by omega) (by omega)]
   exact key (x * 256 + y) (a + 1 + 1) s2 (by omega) (by omega) (by omega) (by omega)
  ·rw [if_neg (by simpa using h2)]
   exact key x (a + 1) s1 (by omega) (by omega) (by omega) (by omega)
/-- A step that ends, and what holds of its end. -/
def Tt {α : Type} (X : Option α) (Φ : α → Prop) : Prop := ∃ r, X = some r ∧ Φ r
theorem Tt.bind {α β : Type} {X : Option α} {f : α → Option β} {Φ : α → Prop} {Ψ : β → Prop} (h : Tt X Φ) (k : ∀ r, Φ r → Tt (f r) Ψ) : Tt (X.bind f) Ψ := by
 obtain ⟨r, rfl, hr⟩ := h
 exact k r hr
theorem Tt.one {α : Type} {r : α} {Φ : α → Prop} (h : Φ r) : Tt (some r) Φ := ⟨r, rfl, h⟩
theorem Tt.ite {α : Type} {c : Prop} [Decidable c] {X Y : Option α} {Φ : α → Prop} (h1 : c → Tt X Φ) (h2 : ¬ c → Tt Y Φ) : Tt (if c then X else Y) Φ := by
 by_cases h : c
 ·rw [if_pos h]; exact h1 h
 ·rw [if_neg h]; exact h2 h
theorem Tt.mono {α : Type} {X : Option α} {Φ Ψ : α → Prop} (h : Tt X Φ) (k : ∀ r, Φ r → Ψ r) : Tt X Ψ := by
 obtain ⟨r, e, hr⟩ := h
 exact ⟨r, e, k r hr⟩
theorem Tt.cat {n : Nat} {a b : ByteArray} (h : a.size + b.size ≤ n) : Tt (cat? n a b) fun c => c.size = a.size + b.size := by
 obtain ⟨c, e, hc⟩ := cat_at h
 refine ⟨c, e, ?_⟩
 show c.size = a.size + b.size
 rw [size_bytes c, hc, List.length_append, ← size_bytes, ← size_bytes]
theorem Tt.cutS {S : ByteArray} {a b : Int} (h0 : 0 ≤ a) (h1 : a ≤ b) (h2 : b ≤ S.size) : Tt (cutS? S a b) fun c => (c.size : Int) = b - a := by
 obtain ⟨a, rfl⟩ := Int.eq_ofNat_of_zero_le h0
 obtain ⟨b, rfl⟩ := Int.eq_ofNat_of_zero_le (show 0 ≤ b by omega)
 have hb : b ≤ (bytesB S).length := by rw [← size_bytes]; omega
 obtain ⟨T, e, hT⟩ := cutS_at S (a := a) (b := b) (by omega) (by omega)
 refine ⟨T, e, ?_⟩
 show (T.size : Int) = _
 rw [size_bytes T, hT, List.length_drop, List.length_take]
 omega
theorem Tt.rd {α : Type} {xs : List α} {i : Int} (h0 : 0 ≤ i) (h : i < xs.length) : Tt (rd? xs i) fun r => r ∈ xs := by
 obtain ⟨k, rfl⟩ := Int.eq_ofNat_of_zero_le h0
 have hk : k < xs.length := by omega
 exact ⟨_, rd?_at hk, List.getElem_mem hk⟩
theorem Tt.app {α : Type} {n : Nat} {xs ys : List α} (h : xs.length + ys.length ≤ n) : Tt (app? n xs ys) fun r => r = xs ++ ys := ⟨_, app?_at h, rfl⟩
theorem Tt.quo {k : IntKind} {x y : Int} (h : y ≠ 0) : Tt (quo? k x y) fun _ => True := ⟨_, if_neg h, trivial⟩
theorem Tt.rem {x y : Int} (h : y ≠ 0) : Tt (rem? x y) fun _ => True := ⟨_, if_neg h, trivial⟩
theorem size_text (xs : List Int) : (textB xs).size = xs.length := by
 have key : ∀ (xs : List Int) (s : ByteArray), (xs.foldl (fun s n => s.push (UInt8.ofNat n.toNat)) s).size = s.size + xs.length := by
  intro xs
  induction xs with
  | nil => intro s; rfl
  | cons x xs ih =>
   intro s
   rw [List.foldl_cons, ih, List.length_cons, ByteArray.size_push]
   omega
 exact (key xs .empty).trans (Nat.zero_add _)
theorem t_next {code : List Int} (hc : allW (inK .u8) code) {a s : Int} (h0 : 0 ≤ a) (h1 : a ≤ 1000000000000) : Tt (z5.f code a s) fun r => 0 ≤ r.1 ∧ r.1 ≤ 255 ∧ r.2.1 = a + 1 := by
 obtain ⟨n, s', e, x, y⟩ := p_next code hc a s h0 (by omega)
 exact ⟨_, e, x, y, rfl⟩
theorem t_pick {code : List Int} (hc : allW (inK .u8) code) {a s n : Int} (h0 : 0 ≤ a) (h1 : a ≤ 1000000000000) : Tt (z6.f code a s n) fun r => 0 ≤ r.1 ∧ (1 ≤ n → r.1 < n) ∧ (n ≤ 1 → r.1 = 0) ∧ r.1 ≤ 65535 ∧ a ≤ r.2.1 ∧ r.2.1 ≤ a + 2 := by
 obtain ⟨r, a', s', e, x1, x2, x3, x4, x5, x6⟩ := p_pick code hc a s n h0 h1
 exact ⟨_, e, x1, x2, x3, x4, x5, x6⟩
theorem p_among (code : List Int) (hc : allW (inK .u8) code) (a s : Int) (l : List Int) (hl : l ≠ []) (h0 : 0 ≤ a) (h1 : a ≤ 1000000000000) : ∃ r a' s', z8.f code a s l = some (r, a', s') ∧ r ∈ l ∧ a ≤ a' ∧ a' ≤ a + 2 := by
 unfold z8.f
 have hp : 0 < l.length := List.length_pos_iff.2 hl
 obtain ⟨r, a', s', e, r0, r1, _, _, b0, b1⟩ := p_pick code hc a s (l.length : Int) h0 h1
 rw [e]
 simp only [Option.bind_some]
 obtain ⟨k, rfl⟩ := Int.eq_ofNat_of_zero_le r0
 have hk : k < l.length := by have := r1 (by omega); omega
 rw [rd?_at hk]
 exact ⟨_, a', s', rfl, List.getElem_mem hk, b0, b1⟩
theorem t_among {code : List Int} (hc : allW (inK .u8) code) {a s : Int} {l : List Int} (hl : l ≠ []) (h0 : 0 ≤ a) (h1 : a ≤ 1000000000000) : Tt (z8.f code a s l) fun r => r.1 ∈ l ∧ a ≤ r.2.1 ∧ r.2.1 ≤ a + 2 := by
 obtain ⟨r, a', s', e, x1, x2, x3⟩ := p_among code hc a s l hl h0 h1
 exact ⟨_, e, x1, x2, x3⟩
theorem p_one (code : List Int) (hc : allW (inK .u8) code) (a s n : Int) (h0 : 0 ≤ a) (h1 : a ≤ 1000000000000) : ∃ (r : Bool) (a' s' : Int), z7.f code a s n = some (r, a', s') ∧ a ≤ a' ∧ a' ≤ a + 2 := by
 unfold z7.f
 obtain ⟨r, a', s', e, _, _, _, _, b0, b1⟩ := p_pick code hc a s n h0 h1
 rw [e]
 exact ⟨_, a', s', rfl, b0, b1⟩
theorem t_one {code : List Int} (hc : allW (inK .u8) code) {a s n : Int} (h0 : 0 ≤ a) (h1 : a ≤ 1000000000000) : Tt (z7.f code a s n) fun r => a ≤ r.2.1 ∧ r.2.1 ≤ a + 2 := by
 obtain ⟨r, a', s', e, x1, x2⟩ := p_one code hc a s n h0 h1
 exact ⟨_, e, x1, x2⟩
theorem p_least (a b : Int) : z9.f a b = some (min a b) := by
 unfold z9.f
 by_cases h : a < b
 ·rw [if_pos (by simpa using h), Int.min_eq_left (by omega)]
 ·rw [if_neg (by simpa using h), Int.min_eq_right (by omega)]
theorem p_own (x : List Int) (hx : x.length ≤ big) : zb.f x = some x := by
 unfold zb.f
 unfold big at hx
 rw [app?_at (by simpa using hx)]
 rfl
theorem p_clone (x : List Int) (hx : x.length ≤ big) : z0q.f x = some x := by
 unfold z0q.f
 unfold big at hx
 rw [app?_at (by simpa using hx)]
 rfl
theorem p_most2 (a b : Int) : Tt (za.f a b) fun _ => True := by
 unfold za.f
 exact Tt.ite (fun _ => .one trivial) (fun _ => .one trivial)
theorem t_least (a b : Int) : Tt (z9.f a b) fun _ => True := ⟨_, p_least a b, trivial⟩
theorem t_l4Add (p : List Int) (a b : Int) (hp : p.length ≤ 1000) (he : p.length % 2 = 0) : Tt (zc.f p a b) fun r => r.length ≤ p.length + 2 ∧ r.length % 2 = 0 := by
 unfold zc.f
 have k1 : ∀ (k i : Nat) (a b : Int) (out : List Int), i ≤ p.length → p.length - i < k → i % 2 = 0 → out.length ≤ i → out.length % 2 = 0 → Tt (zc.l1 p k a b out i) fun r => r.2.2.length ≤ p.length ∧ r.2.2.length % 2 = 0 := by
  intro k
  induction k with
  | zero => intro i a b out _ h; omega
  | succ k ih =>
   intro i a b out hi hk h2 ho ho2
   rw [zc.l1]
   refine Tt.ite (fun h => ?_) (fun _ => .one ⟨by dsimp only; omega, ho2⟩)
   have h : i < p.length := by have := of_decide_eq_true h; omega
   rw [y03 i (by omega)]
   have g1 : Tt (rd? p (i : Int)) fun _ => True := (Tt.rd (by omega) (by omega)).mono fun _ _ => trivial
   have g2 : Tt (rd? p ((i + 1 : Nat) : Int)) fun _ => True := (Tt.rd (by omega) (by omega)).mono fun _ _ => trivial
   refine Tt.bind (Φ := fun o : Int × Int × List Int => o.2.2.length ≤ i + 2 ∧ o.2.2.length % 2 = 0) ?_ fun o ho' => ?_
   ·refine Tt.bind (Φ := fun _ => True) (g2.bind fun _ _ => Tt.ite (fun _ => .one trivial) (fun _ => g1.bind fun _ _ => .one trivial)) fun o _ => Tt.ite (fun _ => ?_) (fun _ => ?_)
    ·exact g1.bind fun _ _ => g2.bind fun _ _ => (Tt.app (by simp; omega)).bind fun x hx => .one (by subst hx; simp; omega)
    ·exact g1.bind fun _ _ => (t_least _ _).bind fun _ _ => g2.bind fun _ _ => (p_most2 _ _).bind fun _ _ => .one ⟨by dsimp only; omega, ho2⟩
   ·obtain ⟨x, y, z⟩ := o
    dsimp only at *
    rw [yv (by omega) (by omega), show ((i : Int) + 2) = ((i + 2 : Nat) : Int) by omega]
    exact ih (i + 2) x y z (by omega) (by omega) (by omega) ho'.1 ho'.2
 refine (k1 _ 0 a b [] (by omega) (by omega) rfl (by simp) rfl).bind fun o ho => ?_
 obtain ⟨x, y, z⟩ := o
 dsimp only at *
 have k2 : ∀ (k i : Nat), i ≤ z.length → z.length - i < k → i % 2 = 0 → Tt (zc.l2 x z k i) fun r => 0 ≤ r ∧ r ≤ z.length ∧ r % 2 = 0 := by
  intro k
  induction k with
  | zero => intro i _ h; omega
  | succ k ih =>
   intro i hi hk h2
   rw [zc.l2]
   refine Tt.bind (Φ := fun b => b = true → i < z.length) (Tt.ite (fun h => ?_) (fun _ => .one fun h => by cases h)) fun b hb => ?_
   ·have h : i < z.length := by have := of_decide_eq_true h; omega
    exact (Tt.rd (by omega) (by omega)).bind fun _ _ => .one fun _ => h
   ·refine Tt.ite (fun h => ?_) (fun _ => .one ⟨by omega, by omega, by omega⟩)
    have h := hb h
    rw [yv (by omega) (by omega), show ((i : Int) + 2) = ((i + 2 : Nat) : Int) by omega]
    exact ih (i + 2) (by omega) (by omega) (by omega)
 refine (k2 _ 0 (by omega) (by omega) rfl).bind fun q hq => ?_
 obtain ⟨q, rfl⟩ := Int.eq_ofNat_of_zero_le hq.1
 have c1 : cut? z 0 (q : Int) = some (z.take q) := cut0 (by omega)
 have c2 : cut? z (q : Int) (z.length : Int) = some (z.drop q) := cutE (by omega)
 rw [c1, c2]
 refine (Tt.one (Φ := fun w => w = z.take q) rfl).bind fun w hw => ?_
 subst hw
 rw [p_own _ (by unfold big; simp; omega)]
 refine (Tt.one (Φ := fun w => w = z.take q) rfl).bind fun w hw => ?_
 subst hw
 refine (Tt.app (by simp; omega)).bind fun w hw => ?_
 subst hw
 refine (Tt.one (Φ := fun w => w = z.drop q) rfl).bind fun w hw => ?_
 subst hw
 refine (Tt.app (by simp; omega)).bind fun w hw => .one ?_
 subst hw
 simp
 omega
theorem t_l4Not (p : List Int) (hp : p.length ≤ 1000) (he : p.length % 2 = 0) : Tt (zd.f p) fun r => r.length ≤ p.length + 2 ∧ r.length % 2 = 0 := by
 unfold zd.f
 have k1 : ∀ (k i : Nat) (a : Int) (out : List Int), i ≤ p.length → p.length - i < k → i % 2 = 0 → out.length ≤ i → out.length % 2 = 0 → Tt (zd.l1 p k out a i) fun r => r.1.length ≤ p.length ∧ r.1.length % 2 = 0 := by
  intro k
  induction k with
  | zero => intro i a out _ h; omega
  | succ k ih =>
   intro i a out hi hk h2 ho ho2
   rw [zd.l1]
   refine Tt.ite (fun h => ?_) (fun _ => .one ⟨by dsimp only; omega, ho2⟩)
   have h : i < p.length := by have := of_decide_eq_true h; omega
   rw [y03 i (by omega)]
   have g1 : Tt (rd? p (i : Int)) fun _ => True := (Tt.rd (by omega) (by omega)).mono fun _ _ => trivial
   have g2 : Tt (rd? p ((i + 1 : Nat) : Int)) fun _ => True := (Tt.rd (by omega) (by omega)).mono fun _ _ => trivial
   refine Tt.bind (Φ := fun o : List Int => o.length ≤ i + 2 ∧ o.length % 2 = 0) ?_ fun o ho' => ?_
   ·refine g1.bind fun _ _ => Tt.ite (fun _ => ?_) (fun _ => .one ⟨by omega, ho2⟩)
    exact g1.bind fun _ _ => (Tt.app (by simp; omega)).bind fun x hx => .one (by subst hx; simp; omega)
   ·refine g2.bind fun _ _ => ?_
    rw [yv (n := (i : Int) + 2) (by omega) (by omega), show ((i : Int) + 2) = ((i + 2 : Nat) : Int) by omega]
    exact ih (i + 2) _ o (by omega) (by omega) (by omega) ho'.1 ho'.2
 refine (k1 _ 0 0 [] (by omega) (by omega) rfl (by simp) rfl).bind fun o ho => ?_
 obtain ⟨x, y⟩ := o
 dsimp only at *
 refine Tt.bind (Φ := fun o : List Int => o.length ≤ p.length + 2 ∧ o.length % 2 = 0) (Tt.ite (fun _ => ?_) (fun _ => .one ⟨by omega, ho.2⟩)) fun o ho => .one ho
 exact (Tt.app (by simp; omega)).bind fun x hx => .one (by subst hx; simp; omega)
theorem Tt.st {α : Type} {xs : List α} {i : Int} {x : α} (h0 : 0 ≤ i) (h : i < xs.length) : Tt (st? xs i x) fun r => r.length = xs.length ∧ ∀ y ∈ r, y = x ∨ y ∈ xs := by
 obtain ⟨k, rfl⟩ := Int.eq_ofNat_of_zero_le h0
 have hk : k < xs.length := by omega
 refine ⟨_, st?_at x hk, by simp, fun y hy => ?_⟩
 rcases List.mem_or_eq_of_mem_set hy with h | h
 ·exact .inr h
 ·exact .inl h
theorem t_set {code : List Int} (hc : allW (inK .u8) code) {a s : Int} (h0 : 0 ≤ a) (h1 : a ≤ 100000000000) : Tt (ze.f code a s) fun r => r.1.length ≤ 20 ∧ a ≤ r.2.1 ∧ r.2.1 ≤ a + 40 := by
 unfold ze.f
 refine (t_pick hc h0 (by omega)).bind fun x hx => ?_
 have key : ∀ (n f : Nat) (l : List Int) (a s : Int), n < f → 0 ≤ a → a + 4 * n ≤ 1000000000000 → l.length + 2 * n ≤ 100 → l.length % 2 = 0 → Tt (ze.l1 code f l (n : Int) a s) fun r => r.1.length ≤ l.length + 2 * n ∧ r.1.length % 2 = 0 ∧ a ≤ r.2.1 ∧ r.2.1 ≤ a + 4 * n := by
  intro n
  induction n with
  | zero =>
   intro f l a s hf ha ha2 hl he
   obtain ⟨f, rfl⟩ := Nat.exists_eq_succ_of_ne_zero (show f ≠ 0 by omega)
   rw [ze.l1, if_neg (by simp)]
   exact .one ⟨by dsimp only; omega, he, by dsimp only; omega, by dsimp only; omega⟩
  | succ n ih =>
   intro f l a s hf ha ha2 hl he
   obtain ⟨f, rfl⟩ := Nat.exists_eq_succ_of_ne_zero (show f ≠ 0 by omega)
   rw [ze.l1, if_pos (by simp <;> omega)]
   refine (t_among hc (by decide) ha (by omega)).bind fun x hx => (t_among hc (by decide) (by omega) (by omega)).bind fun y hy => (t_least _ _).bind fun z _ => (t_l4Add l _ _ (by omega) he).bind fun w hw => ?_
   rw [yv (by omega) (by omega), show ((n + 1 : Nat) : Int) - 1 = (n : Int) by omega]
   exact (ih f w _ _ (by omega) (by omega) (by omega) (by omega) hw.2).mono fun r hr => ⟨by omega, hr.2.1, by omega, by omega⟩
 obtain ⟨n, b1, s1⟩ := x
 dsimp only at *
 obtain ⟨n, rfl⟩ := Int.eq_ofNat_of_zero_le hx.1
 have hn := hx.2.1 (by decide)
 refine (key n _ [] b1 s1 (by omega) (by omega) (by omega) (by simp; omega) rfl).bind fun o ho => ?_
 obtain ⟨l, a2, s2⟩ := o
 dsimp only at *
 rw [List.length_nil] at ho
 refine Tt.bind (Φ := fun r : List Int × Int × Int => r.1.length ≤ 20 ∧ a ≤ r.2.1 ∧ r.2.1 ≤ a + 20) ?_ fun o ho => ?_
 ·refine (t_one hc (by omega) (by omega)).bind fun x hx => Tt.ite (fun _ => ?_) (fun _ => .one ⟨by dsimp only; omega, by dsimp only; omega, by dsimp only; omega⟩)
  exact (t_l4Not l (by omega) ho.2.1).bind fun y hy => .one ⟨by dsimp only; omega, by dsimp only; omega, by dsimp only; omega⟩
 obtain ⟨l, a2, s2⟩ := o
 dsimp only at *
 refine Tt.bind (Φ := fun r : List Int × Int × Int => r.1.length ≤ 20 ∧ a ≤ r.2.1 ∧ r.2.1 ≤ a + 40) ?_ fun o ho => .one ho
 refine Tt.bind (Φ := fun r : Bool × Int × Int => (r.1 = true → 0 < l.length) ∧ a ≤ r.2.1 ∧ r.2.1 ≤ a + 30) (Tt.ite (fun h => ?_) (fun _ => .one ⟨(by intro h; cases h), by dsimp only; omega, by dsimp only; omega⟩)) fun o ho => ?_
 ·exact (t_one hc (by omega) (by omega)).bind fun y hy => .one ⟨fun _ => by have := of_decide_eq_true h; omega, by dsimp only; omega, by dsimp only; omega⟩
 ·obtain ⟨b, a', s'⟩ := o
  dsimp only at *
  refine Tt.ite (fun hb => ?_) (fun _ => .one ⟨by dsimp only; omega, by dsimp only; omega, by dsimp only; omega⟩)
  have hl := ho.1 hb
  exact (t_among hc (by decide) (by omega) (by omega)).bind fun y hy => (Tt.rd (by decide) (by omega)).bind fun _ _ => (Tt.st (by decide) (by omega)).bind fun w hw => .one ⟨by dsimp only; omega, by dsimp only; omega, by dsimp only; omega⟩
def runeR : List Int := [97, 98, 99, 120, 32, 49, 10, 0, 127, 128, 228, 769, 770, 2047, 2048, 4352, 4449, 12354, 44032, 55295, 57344, 65533, 65536, 128512, 1114111]
theorem runeR_ok : ∀ u ∈ runeR, okRune u = true := by decide
/-- A pattern of few nodes with small sets. -/
def smRe (n : Nat) (p : List Nd) : Prop := p.length ≤ n ∧ ∀ u ∈ p, u.2.length ≤ 40
theorem smRe.app {n m : Nat} {p q : List Nd} (h : smRe n p) (k : smRe m q) : smRe (n + m) (p ++ q) := ⟨by rw [List.length_append]; have := h.1; have := k.1; omega, fun u hu => (List.mem_append.1 hu).elim (h.2 u) (k.2 u)⟩
theorem smRe.one {u : Nd} (h : u.2.length ≤ 40) : smRe 1 [u] := ⟨Nat.le_refl 1, fun v hv => by rw [List.mem_singleton.1 hv]; exact h⟩
theorem smRe.mono {n m : Nat} {p : List Nd} (h : smRe n p) (k : n ≤ m) : smRe m p := ⟨Nat.le_trans h.1 k, h.2⟩
theorem t_arity (k : Int) : Tt (zl.f k) fun _ => True := ⟨_, p_arity k, trivial⟩
def szR : Nat → Nat
 | 0 => 2
 | n + 1 => 2 * szR n
theorem szR_bd : ∀ n, n ≤ 11 → 2 ≤ szR n ∧ szR n ≤ 4096
 | 0, _ => by decide
 | 1, _ => by decide
 | 2, _ => by decide
 | 3, _ => by decide
 | 4, _ => by decide
 | 5, _ => by decide
 | 6, _ => by decide
 | 7, _ => by decide
 | 8, _ => by decide
 | 9, _ => by decide
 | 10, _ => by decide
 | 11, _ => by decide
 | n + 12, h => by omega
theorem t_re {code : List Int} (hc : allW (inK .u8) code) (pl : Bool) : ∀ (n : Nat), n ≤ 10 → ∀ (k : Nat) (a s : Int), n < k → 0 ≤ a → a + 50 * szR n ≤ 1000000 → Tt (zm.r k code a s (n : Int) pl) fun r => smRe (szR n - 1) r.1 ∧ a ≤ r.2.1 ∧ r.2.1 ≤ a + 50 * szR n - 10 := by
 have leaf : ∀ (a a1 s1 : Int), a ≤ a1 → a1 ≤ a + 2 → 0 ≤ a → a ≤ 1000000 → Tt ((z6.f code a1 s1 8).bind fun u74 => if (u74.1 == 0) = true then (some ([(1, [])], u74.2.1, u74.2.2)) else (if (u74.1 == 1) = true then ((ze.f code u74.2.1 u74.2.2).bind fun u82 => (((zh.f u82.1).bind fun u101 => if (!u101) = true then (some true) else ((zk.f u82.1).bind fun u103 => some (!u103))).bind fun (o : Bool) => match o with | x100 => (if x100 = true then (some []) else (some u82.1))).bind fun (o : List Int) => match o with | x95 => (some ([(2, x95)], u82.2.1, u82.2.2))) else (if (u74.1 == 2) = true then (some ([(2, [0, 1114111])], u74.2.1, u74.2.2)) else ((z8.f code u74.2.1 u74.2.2 [97, 97, 98, 99, 65, 12354, 42, 45]).bind fun u116 => some ([(2, [u116.1, u116.1])], u116.2.1, u116.2.2))))) (fun r : List Nd × Int × Int => smRe 1 r.1 ∧ a ≤ r.2.1 ∧ r.2.1 ≤ a + 60) := by
  intro a a1 s1 g1 g2 h0 h1
  refine (t_pick hc (by omega) (by omega)).bind fun x hx => Tt.ite (fun _ => ?_) (fun _ => Tt.ite (fun _ => ?_) (fun _ => Tt.ite (fun _ => ?_) (fun _ => ?_)))
  ·exact .one ⟨smRe.one (by simp), by dsimp only; omega, by dsimp only; omega⟩
  ·refine (t_set hc (by omega) (by omega)).bind fun y hy => ?_
   refine Tt.bind (Φ := fun l : List Int => l.length ≤ 20) ?_ fun l hl => .one ⟨smRe.one (by dsimp only; omega), by dsimp only; omega, by dsimp only; omega⟩
   refine Tt.bind (Φ := fun _ => True) ?_ fun _ _ => Tt.ite (fun _ => .one (by simp)) (fun _ => .one hy.1)
   rw [p_allRunes _ (by unfold big; omega), p_specSet _ (by unfold big; omega)]
   exact (Tt.one (Φ := fun _ => True) trivial).bind fun _ _ => Tt.ite (fun _ => .one trivial) (fun _ => (Tt.one (Φ := fun _ => True) trivial).bind fun _ _ => .one trivial)
  ·exact .one ⟨smRe.one (by simp), by dsimp only; omega, by dsimp only; omega⟩
  ·exact (t_among hc (by decide) (by omega) (by omega)).bind fun y hy => .one ⟨smRe.one (by simp), by dsimp only; omega, by dsimp only; omega⟩
 intro n
 induction n with
 | zero =>
  intro _ k a s hk h0 h1
  obtain ⟨k, rfl⟩ := Nat.exists_eq_succ_of_ne_zero (show k ≠ 0 by omega)
  rw [zm.r]
  unfold zm.b
  refine (Tt.one (Φ := fun o => o = (true, a, s)) rfl).bind fun o ho => ?_
  subst ho
  dsimp only
  refine Tt.ite (fun _ => ?_) (fun h => absurd rfl h)
  simp only [szR] at h1
  exact (leaf a a s (by omega) (by omega) h0 (by omega)).mono fun r hr => ⟨hr.1.mono (by decide), hr.2.1, by have := hr.2.2; simp only [szR]; omega⟩
 | succ n ih =>
  intro hn k a s hk h0 h1
  obtain ⟨k, rfl⟩ := Nat.exists_eq_succ_of_ne_zero (show k ≠ 0 by omega)
  rw [zm.r]
  unfold zm.b
  have hb := szR_bd n (by omega)
  have ih := ih (by omega)
  have hw : IntKind.i64.wrap (((n + 1 : Nat) : Int) - 1) = (n : Int) := by rw [yv (by omega) (by omega)]; omega
  have hne : (((n + 1 : Nat) : Int) == 0) = false := by rw [beq_eq_false_iff_ne]; omega
  rw [hne, szR]
  rw [szR] at h1
  generalize szR n = N at *
  refine Tt.bind (Φ := fun o : Bool × Int × Int => a ≤ o.2.1 ∧ o.2.1 ≤ a + 2) (Tt.ite (fun h => by cases h) (fun _ => (t_one hc h0 (by omega)).bind fun u hu => .one ⟨by dsimp only; omega, by dsimp only; omega⟩)) fun o ho => ?_
  obtain ⟨b, a1, s1⟩ := o
  dsimp only at *
  refine Tt.ite (fun _ => ?_) (fun _ => ?_)
  ·exact (leaf a a1 s1 ho.1 ho.2 h0 (by omega)).mono fun r hr => ⟨hr.1.mono (by omega), hr.2.1, by omega⟩
  refine (t_among hc (by decide) (by omega) (by omega)).bind fun x hx => ?_
  refine Tt.bind (Φ := fun _ => True) (Tt.bind (Φ := fun _ => True) (Tt.ite (fun _ => Tt.ite (fun _ => .one trivial) (fun _ => .one trivial)) (fun _ => .one trivial)) fun _ _ => Tt.ite (fun _ => .one trivial) (fun _ => .one trivial)) fun op _ => ?_
  rw [hw]
  refine (ih k x.2.1 x.2.2 (by omega) (by omega) (by omega)).bind fun u hu => ?_
  refine Tt.bind (Φ := fun r : List Nd × Int × Int => smRe (2 * (N - 1)) r.1 ∧ a ≤ r.2.1 ∧ r.2.1 ≤ a + 4 + 2 * (50 * N - 10)) ?_ fun o ho => ?_
  ·refine (t_arity op).bind fun _ _ => Tt.ite (fun _ => ?_) (fun _ => .one ⟨hu.1.mono (by omega), by dsimp only; omega, by dsimp only; omega⟩)
   refine (ih k u.2.1 u.2.2 (by omega) (by omega) (by omega)).bind fun v hv => ?_
   refine (Tt.app (by have := hu.1.1; have := hv.1.1; omega)).bind fun y hy => .one ⟨?_, by dsimp only; omega, by dsimp only; omega⟩
   subst hy
   exact (hu.1.app hv.1).mono (by omega)
  ·obtain ⟨l, a2, s2⟩ := o
   dsimp only at *
   refine (Tt.app (ys := [((op, []) : Nd)]) (by have := ho.1.1; simp; omega)).bind fun y hy => .one ⟨?_, by dsimp only; omega, by dsimp only; omega⟩
   subst hy
   exact (ho.1.app (smRe.one (u := ((op, []) : Nd)) (by simp))).mono (by omega)
theorem p_l1Same (p q : List Int) (hp : p.length ≤ big) : z07.f p q = some (decide (p = q)) :=
 eq_all p q hp (z07.l1 p q) _ (by omega) fun _ _ _ => rfl
theorem cutT {α : Type} {x : List α} {n : Nat} (h : n ≤ x.length) : cut? x 0 (n : Int) = some (x.take n) := by
 have := cut?_at (xs := x) (a := 0) (b := n) (Nat.zero_le _) h
 simpa using this
theorem t_iter {σ ρ : Type} (N : Nat) (I : Nat → σ → Prop) (Φ : ρ → Prop) (L : Nat → Nat → σ → Option ρ)
  (hs : ∀ k i st, i < N → I i st → (∀ st', I (i + 1) st' → Tt (L k (i + 1) st') Φ) → Tt (L (k + 1) i st) Φ)
  (he : ∀ k st, I N st → Tt (L (k + 1) N st) Φ) : ∀ k i st, i ≤ N → N - i < k → I i st → Tt (L k i st) Φ := by
 intro k
 induction k with
 | zero => intro i _ _ h _; omega
 | succ k ih =>
  intro i st hi hk h
  by_cases e : i = N
  ·subst e; exact he k st h
  ·exact hs k i st (by omega) h fun st' h' => ih (i + 1) st' (by omega) (by omega) h'
/-- Rising numbers. -/
def inc (l : List Int) : Prop := l.Pairwise (· < ·)
def Sm (m : Int) (l : List Int) : Prop := inc l ∧ ∀ x ∈ l, 0 ≤ x ∧ x < m
theorem inc_len : ∀ (l : List Int) (a m : Int), inc l → (∀ x ∈ l, a ≤ x ∧ x < m) → (l.length : Int) ≤ max 0 (m - a)
 | [], a, m, _, _ => by simp; omega
 | x :: xs, a, m, h, k => by
  have h := List.pairwise_cons.1 h
  have := inc_len xs (x + 1) m h.2 fun y hy => ⟨by have := h.1 y hy; omega, (k y (List.mem_cons_of_mem _ hy)).2⟩
  have := k x (List.mem_cons_self ..)
  rw [List.length_cons]
  omega
theorem Sm.len {m : Int} {l : List Int} (h : Sm m l) : (l.length : Int) ≤ max 0 m := by
 have := inc_len l 0 m h.1 h.2
 rwa [Int.sub_zero] at this
theorem Sm.mono {m n : Int} {l : List Int} (h : Sm m l) (k : m ≤ n) : Sm n l := ⟨h.1, fun x hx => ⟨(h.2 x hx).1, by have := (h.2 x hx).2; omega⟩⟩
theorem Sm.nil (m : Int) : Sm m [] := ⟨List.Pairwise.nil, fun x hx => by cases hx⟩
theorem Sm.one {m k : Int} (h0 : 0 ≤ k) (h : k < m) : Sm m [k] := ⟨List.pairwise_singleton _ _, fun x hx => by rw [List.mem_singleton.1 hx]; exact ⟨h0, h⟩⟩
theorem t_put (l : List Int) (x : Int) (hl : l.length ≤ 1000000000) : Tt (zu.f l x) fun r => r.length ≤ l.length + 1 ∧ (inc l → inc r) ∧ ∀ y ∈ r, y ∈ l ∨ y = x := by
 unfold zu.f
 have key := t_iter l.length (fun i (_ : Unit) => ∀ j (h : j < l.length), j < i → l[j] < x) (fun o => ∃ q : Nat, o = (q : Int) ∧ q ≤ l.length ∧ (∀ j (h : j < l.length), j < q → l[j] < x) ∧ ∀ h : q < l.length, ¬ l[q] < x) (fun k i _ => zu.l1 l x k (i : Int))
  (fun k i st hi h ih => by
   show Tt (zu.l1 l x (k + 1) (i : Int)) _
   rw [zu.l1, if_pos (by simp; omega), rd?_at hi]
   simp only [Option.bind_some]
   by_cases c : l[i] < x
   ·rw [if_pos (by simpa using c), y03 i (by omega)]
    exact ih () fun j hj hji => by
     by_cases e : j = i
     ·subst e; exact c
     ·exact h j hj (by omega)
   ·rw [if_neg (by simpa using c)]
    exact .one ⟨i, rfl, by omega, h, fun _ => c⟩)
  (fun k st h => by
   show Tt (zu.l1 l x (k + 1) (l.length : Int)) _
   rw [zu.l1, if_neg (by simp)]
   simp only [Option.bind_some, Bool.false_eq_true, if_false]
   exact .one ⟨l.length, rfl, Nat.le_refl _, h, fun h => by omega⟩)
 refine (key (((l.length : Int) - 0).toNat + 2) 0 () (by omega) (by omega) fun j _ h => by omega).bind ?_
 rintro _ ⟨q, rfl, hq, h1, h2⟩
 dsimp only
 refine Tt.bind (Φ := fun b => b = true ∨ (b = false ∧ ∀ h : q < l.length, l[q] ≠ x)) ?_ fun b hb => Tt.ite (fun _ => .one ⟨by omega, fun h => h, fun y hy => .inl hy⟩) (fun hn => ?_)
 ·by_cases c : q < l.length
  ·rw [if_pos (by simp; omega), rd?_at c]
   refine .one ?_
   by_cases e : l[q] = x
   ·exact .inl (by simpa using e)
   ·exact .inr ⟨by simpa using e, fun _ => e⟩
  ·rw [if_neg (by simp; omega)]
   exact .one (.inr ⟨rfl, fun h => absurd h c⟩)
 ·have hb := (hb.resolve_left hn).2
  have c1 : cut? l 0 (q : Int) = some (l.take q) := cut0 hq
  have c2 : cut? l (q : Int) (l.length : Int) = some (l.drop q) := cutE hq
  rw [c1, c2]
  simp only [Option.bind_some]
  rw [app?_at (by simp; omega)]
  simp only [Option.bind_some]
  rw [app?_at (by simp; omega)]
  simp only [Option.bind_some]
  rw [app?_at (by simp; omega)]
  refine .one ⟨by simp; omega, fun hi => ?_, fun y hy => ?_⟩
  ·have hi' : inc (l.take q ++ l.drop q) := by rw [List.take_append_drop]; exact hi
   unfold inc at hi' ⊢
   have tl : ∀ a ∈ l.take q, a < x := fun a ha => by
    obtain ⟨j, hj, rfl⟩ := List.mem_take_iff_getElem.1 ha
    exact h1 j (by omega) (by omega)
   have dl : ∀ b ∈ l.drop q, x < b := fun b hb' => by
    obtain ⟨j, hj, rfl⟩ := List.mem_drop_iff_getElem.1 hb'
    have g1 := h2 (by omega)
    have g2 := hb (by omega)
    by_cases e : j = 0
    ·subst e; simp only [Nat.add_zero]; omega
    ·have := List.pairwise_iff_getElem.1 hi q (q + j) (by omega) (by omega) (by omega)
     omega
   rw [List.nil_append, List.append_assoc, List.pairwise_append]
   rw [List.pairwise_append] at hi'
   refine ⟨hi'.1, List.pairwise_cons.2 ⟨dl, hi'.2.1⟩, fun a ha b hb' => ?_⟩
   rcases List.mem_cons.1 hb' with rfl | hb'
   ·exact tl a ha
   ·have := tl a ha; have := dl b hb'; omega
  ·simp only [List.nil_append, List.mem_append, List.mem_singleton] at hy
   rcases hy with (hy | hy) | hy
   ·exact .inl (List.mem_of_mem_take hy)
   ·exact .inr hy
   ·exact .inl (List.mem_of_mem_drop hy)
theorem Sm.put {m : Int} {l : List Int} {x : Int} (h : Sm m l) (h0 : 0 ≤ x) (h1 : x < m) (hm : m ≤ 1000) : Tt (zu.f l x) (Sm m) := by
 have := h.len
 refine (t_put l x (by omega)).mono fun r hr => ⟨hr.2.1 h.1, fun y hy => ?_⟩
 rcases hr.2.2 y hy with hy | rfl
 ·exact h.2 y hy
 ·exact ⟨h0, h1⟩
theorem Sm.join {m : Int} {a b : List Int} (ha : Sm m a) (hb : Sm m b) (hm : m ≤ 1000) : Tt (zv.f a b) (Sm m) := by
 unfold zv.f
 have l1 := ha.len
 have l2 := hb.len
 rw [p_own a (by unfold big; omega)]
 simp only [Option.bind_some]
 refine Tt.bind ?_ fun o (ho : Sm m o) => .one ho
 refine t_iter b.length (fun _ (s : List Int) => Sm m s) (Sm m) (fun k i s => zv.l1 b k s (i : Int)) (fun k i st hi h ih => ?_) (fun k st h => ?_) _ 0 a (by omega) (by omega) ha
 ·show Tt (zv.l1 b (k + 1) st (i : Int)) _
  rw [zv.l1, if_pos (by simp; omega), rd?_at hi]
  simp only [Option.bind_some]
  have := hb.2 _ (List.getElem_mem hi)
  refine (h.put this.1 this.2 hm).bind fun s hs => ?_
  rw [y03 i (by omega)]
  exact ih s hs
 ·show Tt (zv.l1 b (k + 1) st (b.length : Int)) _
  rw [zv.l1, if_neg (by simp)]
  exact .one h
def Rows6 (m : Int) (F : List (List Int)) : Prop := ∀ r ∈ F, Sm m r
theorem Rows6.mono {m n : Int} {F : List (List Int)} (h : Rows6 m F) (k : m ≤ n) : Rows6 n F := fun r hr => (h r hr).mono k
theorem t_link {m : Int} (F S : List (List Int)) (a : Bool) (b c frm to : List Int) (hF : Rows6 m F) (hto : Sm m to) (hm : m ≤ 1000) (hfl : frm.length ≤ 1000) (hfrom : ∀ k ∈ frm, 0 ≤ k ∧ k < F.length) : Tt (zw.f a S b c F frm to) fun r => r.length = F.length ∧ Rows6 m r := by
 unfold zw.f
 refine Tt.bind ?_ fun o (ho : o.length = F.length ∧ Rows6 m o) => .one ho
 refine t_iter frm.length (fun _ (s : List (List Int)) => s.length = F.length ∧ Rows6 m s) _ (fun k i s => zw.l1 frm to k (i : Int) s) (fun k i st hi h ih => ?_) (fun k st h => ?_) _ 0 F (by omega) (by omega) ⟨rfl, hF⟩
 ·show Tt (zw.l1 frm to (k + 1) (i : Int) st) _
  rw [zw.l1, if_pos (by simp; omega), rd?_at hi]
  simp only [Option.bind_some]
  have hk := hfrom _ (List.getElem_mem hi)
  refine (Tt.rd hk.1 (by omega)).bind fun r hr => ((h.2 r hr).join hto hm).bind fun j hj => (Tt.rd hk.1 (by omega)).bind fun _ _ => (Tt.st hk.1 (by omega)).bind fun s hs => ?_
  rw [y03 i (by omega)]
  exact ih s ⟨by omega, fun r hr => (hs.2 r hr).elim (fun e => e ▸ hj) (h.2 r)⟩
 ·show Tt (zw.l1 frm to (k + 1) (frm.length : Int) st) _
  rw [zw.l1, if_neg (by simp)]
  exact .one h
abbrev N6 := Bool × List (List Int) × List Int × List Int × List (List Int)
/-- What is known of a pattern's machine. -/
structure Nf (n : N6) : Prop where
 many : n.2.1.length ≤ 40
 sets : ∀ s ∈ n.2.1, s.length ≤ 24 ∧ s.length % 2 = 0
 first : Sm n.2.1.length n.2.2.1
 last : Sm n.2.1.length n.2.2.2.1
 foll : Rows6 n.2.1.length n.2.2.2.2
 len : n.2.2.2.2.length = n.2.1.length
abbrev G6 := Bool × List Int × List Int
structure Nl (p : List Nd) (i : Nat) (st : List G6 × List (List Int) × List (List Int)) : Prop where
 pile : ∀ g ∈ st.1, Sm st.2.1.length g.2.1 ∧ Sm st.2.1.length g.2.2
 plen : st.1.length ≤ i
 many : st.2.1.length ≤ i
 sets : ∀ s ∈ st.2.1, s.length ≤ 24 ∧ s.length % 2 = 0
 foll : Rows6 st.2.1.length st.2.2
 len : st.2.2.length = st.2.1.length
 goes : ∃ (ix : Int) (q : List Int) (out K : List (List Int)) (z : Int), pileR (p.drop i) ix q out = some (K, [z]) ∧ q.length = st.1.length
theorem pile_step {u : Nd} {us : List Nd} {ix : Int} {q : List Int} {out K : List (List Int)} {z : Int} (h : pileR (u :: us) ix q out = some (K, [z])) : 0 ≤ ar u.1 ∧ ar u.1 ≤ q.length ∧ ∃ q' out', pileR us (ix + 1) q' out' = some (K, [z]) ∧ (q'.length : Int) = q.length - ar u.1 + 1 := by
 unfold pileR at h
 split at h
 ·cases h
 ·refine ⟨by omega, by omega, _, _, h, ?_⟩
  simp
  omega
theorem Tt.rdN {α : Type} {xs : List α} {i : Int} (h0 : 0 ≤ i) (h : i < xs.length) : Tt (rd? xs i) fun r => r ∈ xs := Tt.rd h0 h
theorem t_l6Nfa {p : List Nd} (ho : okRe p = true) (hpl : p.all okPl = true) : Tt (zx.f p) Nf := by
 have hz : ∃ K z, pileR p 0 [] [] = some (K, [z]) := by
  have h := ho
  unfold okRe at h
  rw [Bool.and_eq_true] at h
  have h := h.2
  cases hq : pileR p 0 [] [] with
  | none => rw [hq] at h; cases h
  | some o =>
   obtain ⟨K, q⟩ := o
   rw [hq] at h
   have h : ((q.length : Int) == 1) = true := h
   rw [beq_iff_eq] at h
   match q, h with
   | [z], _ => exact ⟨K, z, rfl⟩
   | [], h => simp at h
   | _ :: _ :: _, h => simp at h; omega
 obtain ⟨K, z, hz⟩ := hz
 obtain ⟨q1, q2, q3, _⟩ := okRe_facts ho
 unfold zx.f
 refine Tt.bind (Φ := fun o => Nl p p.length o) ?_ fun o ho' => ?_
 ·refine t_iter p.length (fun i st => Nl p i st) _ (fun k i st => zx.l1 p k st.1 (i : Int) st.2.1 st.2.2) (fun k i st hi h ih => ?_) (fun k st h => ?_) _ 0 ([], [], []) (by omega) (by omega) ⟨fun g hg => (by cases hg), Nat.le_refl _, Nat.le_refl _, fun g hg => (by cases hg), fun g hg => (by cases hg), rfl, 0, [], [], K, z, hz, rfl⟩
  ·obtain ⟨P, S, F⟩ := st
   show Tt (zx.l1 p (k + 1) P (i : Int) S F) _
   obtain ⟨g1, g2, g3, g4, g5, g6, ix, qq, out, K', z', g7, g8⟩ := h
   dsimp only at g1 g2 g3 g4 g5 g6 g8
   rw [List.drop_eq_getElem_cons hi] at g7
   obtain ⟨a0, a1, q', out', g9, g10⟩ := pile_step g7
   rw [zx.l1, if_pos (by simp; omega), rd?_at hi]
   simp only [Option.bind_some]
   have hset := q3 _ (List.getElem_mem hi)
   have hp5 : p[i].1 ≠ 5 ∧ p[i].1 ≠ 7 := by
    have := List.all_eq_true.1 hpl _ (List.getElem_mem hi)
    unfold okPl at this
    simp at this
    exact this
   refine Tt.bind (Φ := fun st' => Nl p (i + 1) st') ?_ fun st' h' => ?_
   rotate_left
   ·obtain ⟨P', S', F'⟩ := st'
    dsimp only
    rw [y03 i (by omega)]
    exact ih (P', S', F') h'
   have hS : (S.length : Int) ≤ 1000 := by omega
   have hc : p[i].1 = 1 ∨ p[i].1 = 2 ∨ (p[i].1 = 3 ∨ p[i].1 = 4) ∨ p[i].1 = 6 := by
    rcases ar_cases a0 with h | h | h | h | h | h | h
    ·exact .inl h
    ·exact .inr (.inl h)
    ·exact .inr (.inr (.inl (.inl h)))
    ·exact .inr (.inr (.inl (.inr h)))
    ·exact absurd h hp5.1
    ·exact .inr (.inr (.inr h))
    ·exact absurd h hp5.2
   rcases hc with h | h | h | h
   ·-- nothing
    have har : ar p[i].1 = 0 := by rw [h]; rfl
    rw [if_neg (by rw [h]; decide), if_pos (by rw [h]; decide)]
    refine (Tt.app (by simp; omega)).bind fun y hy => .one ?_
    subst hy
    refine ⟨fun g hg => ?_, by simp; omega, by dsimp only; omega, g4, g5, g6, ix + 1, q', out', K', z', g9, by simp; omega⟩
    rcases List.mem_append.1 hg with hg | hg
    ·exact g1 g hg
    ·rw [List.mem_singleton.1 hg]; exact ⟨Sm.nil _, Sm.nil _⟩
   ·have har : ar p[i].1 = 0 := by rw [h]; rfl
    rw [if_pos (by rw [h]; decide), p_own _ (by unfold big; omega)]
    simp only [Option.bind_some]
    refine (Tt.app (by simp; omega)).bind fun y hy => (Tt.app (by simp; omega)).bind fun y2 hy2 => (Tt.app (by simp; omega)).bind fun y3 hy3 => .one ?_
    subst hy hy2 hy3
    have hlen : ((S ++ [p[i].2]).length : Int) = (S.length : Int) + 1 := by simp
    refine ⟨fun g hg => ?_, by simp; omega, by simp; omega, fun s hs => ?_, fun r hr => ?_, by simp; omega, ix + 1, q', out', K', z', g9, by simp; omega⟩
    ·dsimp only
     rw [hlen]
     rcases List.mem_append.1 hg with hg | hg
     ·exact ⟨(g1 g hg).1.mono (by omega), (g1 g hg).2.mono (by omega)⟩
     ·rw [List.mem_singleton.1 hg]; exact ⟨Sm.one (by omega) (by omega), Sm.one (by omega) (by omega)⟩
    ·rcases List.mem_append.1 hs with hs | hs
     ·exact g4 s hs
     ·rw [List.mem_singleton.1 hs]; exact hset
    ·dsimp only
     rw [hlen]
     rcases List.mem_append.1 hr with hr | hr
     ·exact (g5 r hr).mono (by omega)
     ·rw [List.mem_singleton.1 hr]; exact Sm.nil _
   ·have har : ar p[i].1 = 2 := by rcases h with h | h <;> rw [h] <;> rfl
    have hP : 2 ≤ P.length := by omega
    rw [if_neg (by rcases h with h | h <;> rw [h] <;> decide), if_neg (by rcases h with h | h <;> rw [h] <;> decide), yv (n := (P.length : Int) - 1) (by omega) (by omega), yv (n := (P.length : Int) - 2) (by omega) (by omega)]
    refine (Tt.rd (by omega) (by omega)).bind fun b hb => ?_
    rw [if_neg (by rcases h with h | h <;> rw [h] <;> decide)]
    refine (Tt.rd (by omega) (by omega)).bind fun a ha => ?_
    obtain ⟨b1, b2⟩ := g1 b hb
    obtain ⟨a1', a2⟩ := g1 a ha
    have l2 := a2.len
    have j1 := a1'.join b1 hS
    have j2 := a2.join b2 hS
    refine Tt.bind (Φ := fun o : G6 => Sm S.length o.2.1 ∧ Sm S.length o.2.2) (Tt.ite (fun _ => j1.bind fun x hx => j2.bind fun y hy => .one ⟨hx, hy⟩) (fun _ => j1.bind fun x hx => j2.bind fun y hy => .one ⟨hx, hy⟩)) fun o ho => ?_
    obtain ⟨e, x, y⟩ := o
    dsimp only at ho ⊢
    refine Tt.bind (Φ := fun o : List (List Int) × G6 => (o.1.length = F.length ∧ Rows6 S.length o.1) ∧ Sm S.length o.2.2.1 ∧ Sm S.length o.2.2.2) (Tt.ite (fun _ => ?_) (fun _ => .one ⟨⟨rfl, g5⟩, ho⟩)) fun o ho => ?_
    ·refine (t_link F S false [] [] a.2.2 b.2.1 g5 b1 hS (by omega) (fun k hk => ⟨(a2.2 k hk).1, by have := (a2.2 k hk).2; omega⟩)).bind fun F' hF' => ?_
     refine Tt.bind (Φ := fun o : G6 => Sm S.length o.2.1 ∧ Sm S.length o.2.2) (Tt.ite (fun _ => .one ⟨a1', b2⟩) (fun _ => .one ⟨a1', b2⟩)) fun o ho => ?_
     obtain ⟨e', x', y'⟩ := o
     dsimp only at ho ⊢
     refine Tt.bind (Φ := fun o : List Int => Sm S.length o) (Tt.ite (fun _ => j1.bind fun x hx => .one hx) (fun _ => .one ho.1)) fun o ho1 => ?_
     exact Tt.ite (fun _ => j2.bind fun y hy => .one ⟨hF', ho1, hy⟩) (fun _ => .one ⟨hF', ho1, ho.2⟩)
    ·obtain ⟨F', e', x', y'⟩ := o
     dsimp only at ho ⊢
     have c0 : cut? P 0 ((P.length : Int) - 2) = some (P.take (P.length - 2)) := by
      rw [show (P.length : Int) - 2 = ((P.length - 2 : Nat) : Int) by omega]
      exact cutT (by omega)
     rw [c0]
     simp only [Option.bind_some]
     refine (Tt.app (by simp; omega)).bind fun P' hP' => .one ?_
     subst hP'
     refine ⟨fun g hg => ?_, by simp; omega, by dsimp only; omega, g4, ho.1.2, by dsimp only; omega, ix + 1, q', out', K', z', g9, by simp; omega⟩
     rcases List.mem_append.1 hg with hg | hg
     ·exact g1 g (List.mem_of_mem_take hg)
     ·rw [List.mem_singleton.1 hg]; exact ho.2
   ·have har : ar p[i].1 = 1 := by rw [h]; rfl
    have hP : 1 ≤ P.length := by omega
    rw [if_neg (by rw [h]; decide), if_neg (by rw [h]; decide), yv (by omega) (by omega)]
    refine (Tt.rd (by omega) (by omega)).bind fun b hb => ?_
    rw [if_pos (by rw [h]; decide)]
    obtain ⟨b1, b2⟩ := g1 b hb
    have l2 := b2.len
    refine (t_link F S false [] [] b.2.2 b.2.1 g5 b1 hS (by omega) (fun k hk => ⟨(b2.2 k hk).1, by have := (b2.2 k hk).2; omega⟩)).bind fun F' hF' => (Tt.rd (by omega) (by omega)).bind fun _ _ => (Tt.st (by omega) (by omega)).bind fun P' hP' => .one ?_
    refine ⟨fun g hg => ?_, by dsimp only; omega, by dsimp only; omega, g4, hF'.2, by dsimp only; omega, ix + 1, q', out', K', z', g9, by dsimp only; omega⟩
    rcases hP'.2 g hg with rfl | hg
    ·exact ⟨b1, b2⟩
    ·exact g1 g hg
  ·obtain ⟨P, S, F⟩ := st
   show Tt (zx.l1 p (k + 1) P (p.length : Int) S F) _
   rw [zx.l1, if_neg (by simp)]
   exact .one h
 ·obtain ⟨P, S, F⟩ := o
  obtain ⟨g1, g2, g3, g4, g5, g6, ix, qq, out, K', z', g7, g8⟩ := ho'
  dsimp only at g1 g2 g3 g4 g5 g6 g8 ⊢
  rw [List.drop_length] at g7
  unfold pileR at g7
  have hq : qq = [z'] := by injection g7 with g7; injection g7
  have hP : P.length = 1 := by rw [← g8, hq]; rfl
  refine (Tt.rd (by omega) (by omega)).bind fun a ha => (Tt.rd (by omega) (by omega)).bind fun b hb => ?_
  obtain ⟨b1, b2⟩ := g1 b hb
  have l1 := b1.len
  rw [p_own _ (by unfold big; omega)]
  simp only [Option.bind_some]
  refine (Tt.rd (by omega) (by omega)).bind fun c hc => ?_
  obtain ⟨c1, c2⟩ := g1 c hc
  have l2 := c2.len
  rw [p_own _ (by unfold big; omega)]
  exact .one ⟨by dsimp only; omega, g4, b1, c2, g5, g6⟩
/-- A loop that only looks. -/
theorem t_look {ρ : Type} {Φ : ρ → Prop} (N : Nat) (L : Nat → Int → Option ρ) (hN : N ≤ 1000000000)
  (hs : ∀ k (i : Nat), i < N → Tt (L k (IntKind.i64.wrap ((i : Int) + 1))) Φ → Tt (L (k + 1) (i : Int)) Φ) (he : ∀ k, Tt (L (k + 1) (N : Int)) Φ) (k : Nat) (hk : N < k) : Tt (L k 0) Φ :=
 t_iter N (fun _ (_ : Unit) => True) Φ (fun k i _ => L k (i : Int)) (fun k i _ hi _ ih => hs k i hi (by rw [y03 i (by omega)]; exact ih () trivial)) (fun k _ _ => he k) k 0 () (Nat.zero_le _) (by omega) trivial
theorem t_in (a b c : Int) : Tt (zf.f a b c) fun _ => True := by
 unfold zf.f
 exact Tt.ite (fun _ => .one trivial) fun _ => .one trivial
theorem Tt.lo {α β : Type} {X : Option (Lo Unit α)} {f : Lo Unit α → Option α} {Ψ : α → Prop} (h : Tt X fun o => ∀ z, o = .ret z → Ψ z) (h0 : Tt (f (.go ())) Ψ) (h1 : ∀ z, f (.ret z) = some z) : Tt (X.bind f) Ψ := by
 refine h.bind fun o ho => ?_
 cases o with
 | go u => exact h0
 | ret z => rw [h1]; exact .one (ho z rfl)
theorem t_rising (l : List Int) (a b : Int) (hl : l.length ≤ 1000000) : Tt (zz.f l a b) fun _ => True := by
 unfold zz.f
 refine Tt.bind (Φ := fun _ => True) ?_ fun o _ => by cases o <;> exact .one trivial
 refine t_look l.length (fun k i => zz.l1 l a b k i) (by omega) (fun k i hi ih => ?_) (fun k => ?_) _ (by omega)
 ·show Tt (zz.l1 l a b (k + 1) (i : Int)) _
  rw [zz.l1, if_pos (by simp; omega), rd?_at hi]
  simp only [Option.bind_some]
  refine Tt.bind (Φ := fun _ => True) ((t_in _ _ _).bind fun _ _ => Tt.ite (fun _ => .one trivial) fun _ => Tt.ite (fun h => ?_) fun _ => .one trivial) fun o _ => Tt.ite (fun _ => .one trivial) fun _ => ih
  have h : (i : Int) > 0 := by simpa using h
  exact (Tt.rd (by rw [yv (by omega) (by omega)]; omega) (by rw [yv (by omega) (by omega)]; omega)).bind fun _ _ => .one trivial
 ·show Tt (zz.l1 l a b (k + 1) (l.length : Int)) _
  rw [zz.l1, if_neg (by simp)]
  exact .one trivial
theorem t_GoodNfa {n : N6} (h : Nf n) : Tt (z00.f n.1 n.2.1 n.2.2.1 n.2.2.2.1 n.2.2.2.2) fun _ => True := by
 obtain ⟨e, S, fi, la, F⟩ := n
 obtain ⟨h1, h2, h3, h4, h5, h6⟩ := h
 dsimp only at *
 have g3 := h3.len
 have g4 := h4.len
 unfold z00.f
 refine Tt.bind (Φ := fun _ => True) (Tt.ite (fun _ => .one trivial) fun _ => Tt.ite (fun _ => .one trivial) fun _ => (t_rising _ _ _ (by omega)).bind fun _ _ => Tt.ite (fun _ => .one trivial) fun _ => (t_rising _ _ _ (by omega)).bind fun _ _ => .one trivial) fun o _ => Tt.ite (fun _ => .one trivial) fun _ => ?_
 refine Tt.bind (Φ := fun _ => True) ?_ fun o _ => by cases o <;> exact .one trivial
 refine t_look S.length (fun k i => z00.l1 S F k i) (by omega) (fun k i hi ih => ?_) (fun k => ?_) _ (by omega)
 ·show Tt (z00.l1 S F (k + 1) (i : Int)) _
  rw [z00.l1, if_pos (by simp; omega), rd?_at hi]
  simp only [Option.bind_some]
  rw [p_specSet _ (by have := (h2 _ (List.getElem_mem hi)).1; unfold big; omega)]
  simp only [Option.bind_some]
  refine Tt.bind (Φ := fun _ => True) (Tt.ite (fun _ => .one trivial) fun _ => ?_) fun o _ => Tt.ite (fun _ => .one trivial) fun _ => ih
  refine (Tt.rd (by omega) (by omega)).bind fun r hr => ?_
  have := (h5 r hr).len
  exact (t_rising _ _ _ (by omega)).bind fun _ _ => .one trivial
 ·show Tt (z00.l1 S F (k + 1) (S.length : Int)) _
  rw [z00.l1, if_neg (by simp)]
  exact .one trivial
theorem t_cuts2 (s out : List Int) (hs : s.length ≤ 24) (he : s.length % 2 = 0) (ho : out.length ≤ 10000) : Tt (z01.l2 s (((s.length : Int) - 0).toNat + 2) out 0) fun r => r.length ≤ out.length + s.length := by
 have key : ∀ (n k i : Nat) (o : List Int), s.length - i ≤ n → n < k → i % 2 = 0 → o.length ≤ out.length + i → i ≤ s.length → Tt (z01.l2 s k o (i : Int)) fun r => r.length ≤ out.length + s.length := by
  intro n
  induction n with
  | zero =>
   intro k i o h1 h2 h3 h4 h5
   obtain ⟨k, rfl⟩ := Nat.exists_eq_succ_of_ne_zero (show k ≠ 0 by omega)
   rw [z01.l2, if_neg (by simp; omega)]
   exact .one (by omega)
  | succ n ih =>
   intro k i o h1 h2 h3 h4 h5
   obtain ⟨k, rfl⟩ := Nat.exists_eq_succ_of_ne_zero (show k ≠ 0 by omega)
   rw [z01.l2]
   refine Tt.ite (fun h => ?_) fun _ => .one (by omega)
   have h : i < s.length := by have := of_decide_eq_true h; omega
   have r1 := rd?_at h
   have hw : IntKind.i64.wrap ((i : Int) + 1) = ((i + 1 : Nat) : Int) := y03 i (by omega)
   have r2 := rd?_at (show i + 1 < s.length by omega)
   have hw2 : IntKind.i64.wrap ((i : Int) + 2) = ((i + 2 : Nat) : Int) := by rw [yv (by omega) (by omega)]; omega
   rw [hw, hw2, r1, r2]
   simp only [Option.bind_some]
   refine Tt.bind (Φ := fun q => q.length ≤ o.length + 2) ?_ fun q hq => ih k (i + 2) q (by omega) (by omega) (by omega) (by omega) (by omega)
   refine Tt.bind (Φ := fun q => q.length ≤ o.length + 1) (Tt.ite (fun _ => (t_put _ _ (by omega)).bind fun q hq => .one hq.1) fun _ => .one (by omega)) fun q hq => Tt.ite (fun _ => (t_put _ _ (by omega)).bind fun q' hq' => .one (by have := hq'.1; omega)) fun _ => .one (by omega)
 exact key s.length _ 0 out (by omega) (by omega) rfl (by omega) (by omega)
theorem t_l6Cuts {n : N6} (h : Nf n) : Tt (z01.f n.1 n.2.1 n.2.2.1 n.2.2.2.1 n.2.2.2.2) fun r => r.length ≤ 1000 := by
 obtain ⟨e, S, fi, la, F⟩ := n
 obtain ⟨h1, h2, h3, h4, h5, h6⟩ := h
 dsimp only at *
 unfold z01.f
 refine Tt.bind (Φ := fun o => o.length ≤ 1000) ?_ fun o ho => .one ho
 refine t_iter S.length (fun i (o : List Int) => o.length ≤ 24 * i) _ (fun k i o => z01.l1 S k o (i : Int)) (fun k i st hi h ih => ?_) (fun k st h => ?_) _ 0 [] (by omega) (by omega) (by simp)
 ·show Tt (z01.l1 S (k + 1) st (i : Int)) _
  rw [z01.l1, if_pos (by simp; omega), rd?_at hi]
  simp only [Option.bind_some]
  have hs := h2 _ (List.getElem_mem hi)
  refine Tt.bind (Φ := fun o => o.length ≤ 24 * (i + 1)) ((t_cuts2 _ st hs.1 hs.2 (by omega)).bind fun o ho => .one (by omega)) fun o ho => ?_
  rw [y03 i (by omega)]
  exact ih o ho
 ·show Tt (z01.l1 S (k + 1) st (S.length : Int)) _
  rw [z01.l1, if_neg (by simp)]
  exact .one (by omega)
theorem t_CutsOf {n : N6} (h : Nf n) : Tt (z02.f n.1 n.2.1 n.2.2.1 n.2.2.2.1 n.2.2.2.2) fun r => r.1.length ≤ 40 := by
 unfold z02.f
 obtain ⟨c, hc, hcl⟩ := t_l6Cuts h
 rw [hc]
 simp only [Option.bind_some]
 refine Tt.bind (Φ := fun b => b = true ∨ c.length ≤ 40) ((t_GoodNfa h).bind fun _ _ => Tt.ite (fun _ => .one (.inl rfl)) fun _ => .one ?_) fun b hb => Tt.ite (fun _ => .one (by simp)) fun hn => .one (hb.resolve_left hn)
 by_cases e : c.length ≤ 40
 ·exact .inr e
 ·exact .inl (by simp; omega)
theorem t_step {n : N6} (h : Nf n) {l : List Int} (hl : Sm n.2.1.length l) (r : Int) : Tt (z06.f n.1 n.2.1 n.2.2.1 n.2.2.2.1 n.2.2.2.2 l r) (Sm n.2.1.length) := by
 obtain ⟨e, S, fi, la, F⟩ := n
 obtain ⟨h1, h2, h3, h4, h5, h6⟩ := h
 dsimp only at *
 have g := hl.len
 unfold z06.f
 refine Tt.bind ?_ fun o (ho : Sm S.length o) => .one ho
 refine t_iter l.length (fun i (o : List Int) => o.Sublist (l.take i)) _ (fun k i o => z06.l1 S l r k o (i : Int)) (fun k i st hi h ih => ?_) (fun k st h => ?_) _ 0 [] (by omega) (by omega) (List.nil_sublist _)
 ·show Tt (z06.l1 S l r (k + 1) st (i : Int)) _
  rw [z06.l1, if_pos (by simp; omega), rd?_at hi]
  simp only [Option.bind_some]
  have hk := hl.2 _ (List.getElem_mem hi)
  have ht : l.take (i + 1) = l.take i ++ [l[i]] := List.take_succ_eq_append_getElem hi
  have hsl := h.length_le
  rw [List.length_take] at hsl
  refine Tt.bind (Φ := fun o : List Int => o.Sublist (l.take (i + 1))) ?_ fun o ho => ?_
  ·refine (Tt.rd hk.1 hk.2).bind fun s hs => ?_
   have hs := h2 s hs
   rw [p_specIn s r (by omega) hs.2]
   simp only [Option.bind_some]
   refine Tt.ite (fun _ => (Tt.app (by simp; omega)).bind fun o ho => .one ?_) fun _ => .one ?_
   ·subst ho
    rw [ht]
    exact h.append (List.Sublist.refl _)
   ·rw [ht]
    exact h.trans (List.sublist_append_left _ _)
  ·rw [y03 i (by omega)]
   exact ih o ho
 ·show Tt (z06.l1 S l r (k + 1) st (l.length : Int)) _
  rw [z06.l1, if_neg (by simp)]
  rw [List.take_length] at h
  exact .one ⟨hl.1.sublist h, fun x hx => hl.2 x (h.subset hx)⟩
theorem t_behind {n : N6} (h : Nf n) {l : List Int} (hl : Sm n.2.1.length l) : Tt (z03.f n.1 n.2.1 n.2.2.1 n.2.2.2.1 n.2.2.2.2 l) (Sm n.2.1.length) := by
 obtain ⟨e, S, fi, la, F⟩ := n
 obtain ⟨h1, h2, h3, h4, h5, h6⟩ := h
 dsimp only at *
 have g := hl.len
 unfold z03.f
 refine Tt.bind ?_ fun o (ho : Sm S.length o) => .one ho
 refine t_iter l.length (fun i (o : List Int) => Sm S.length o) _ (fun k i o => z03.l1 F l k o (i : Int)) (fun k i st hi h ih => ?_) (fun k st h => ?_) _ 0 [] (by omega) (by omega) (Sm.nil _)
 ·show Tt (z03.l1 F l (k + 1) st (i : Int)) _
  rw [z03.l1, if_pos (by simp; omega), rd?_at hi]
  simp only [Option.bind_some]
  have hk := hl.2 _ (List.getElem_mem hi)
  refine (Tt.rd hk.1 (by omega)).bind fun s hs => (h.join (h5 s hs) (by omega)).bind fun o ho => ?_
  rw [y03 i (by omega)]
  exact ih o ho
 ·show Tt (z03.l1 F l (k + 1) st (l.length : Int)) _
  rw [z03.l1, if_neg (by simp)]
  exact .one h
theorem t_has (l : List Int) (x : Int) (hl : l.length ≤ 1000000) : Tt (z04.f l x) fun b => b = decide (x ∈ l) := by
 unfold z04.f
 have key := t_iter l.length (fun i (_ : Unit) => ∀ j (h : j < l.length), j < i → l[j] ≠ x) (fun o : Lo Unit Bool => (o = .ret true ∧ x ∈ l) ∨ (o = .go () ∧ x ∉ l)) (fun k i _ => z04.l1 l x k (i : Int)) (fun k i _ hi h ih => ?_) (fun k _ h => ?_) (((l.length : Int) - 0).toNat + 2) 0 () (by omega) (by omega) (fun j _ h => by omega)
 ·refine key.bind fun o ho => ?_
  rcases ho with ⟨rfl, h⟩ | ⟨rfl, h⟩
  ·exact .one (by simp [h])
  ·exact .one (by simp [h])
 ·show Tt (z04.l1 l x (k + 1) (i : Int)) _
  rw [z04.l1, if_pos (by simp; omega), rd?_at hi]
  simp only [Option.bind_some]
  refine Tt.ite (fun c => .one (.inl ⟨rfl, ?_⟩)) fun c => ?_
  ·have c : l[i] = x := by simpa using c
   exact c ▸ List.getElem_mem hi
  ·rw [y03 i (by omega)]
   refine ih () fun j hj hji => ?_
   by_cases e : j = i
   ·subst e; simpa using c
   ·exact h j hj (by omega)
 ·show Tt (z04.l1 l x (k + 1) (l.length : Int)) _
  rw [z04.l1, if_neg (by simp)]
  refine .one (.inr ⟨rfl, fun hx => ?_⟩)
  obtain ⟨j, hj, e⟩ := List.getElem_of_mem hx
  exact h j hj hj e
theorem t_index (L : List (List Int)) (x : List Int) (hL : L.length ≤ 1000000) (hx : x.length ≤ 1000000) : Tt (z08.f L x) fun r => r < L.length := by
 unfold z08.f
 refine Tt.bind (Φ := fun o : Lo Unit Int => ∀ z, o = .ret z → z < L.length) ?_ fun o ho => ?_
 ·refine t_look L.length (fun k i => z08.l1 L x k i) (by omega) (fun k i hi ih => ?_) (fun k => ?_) _ (by omega)
  ·show Tt (z08.l1 L x (k + 1) (i : Int)) _
   rw [z08.l1, if_pos (by simp; omega), rd?_at hi]
   simp only [Option.bind_some]
   rw [p_l1Same x _ (by unfold big; omega)]
   simp only [Option.bind_some]
   exact Tt.ite (fun _ => .one fun z hz => by injection hz with hz; omega) fun _ => ih
  ·show Tt (z08.l1 L x (k + 1) (L.length : Int)) _
   rw [z08.l1, if_neg (by simp)]
   exact .one fun z hz => by cases hz
 ·cases o with
  | go u => exact .one (by omega)
  | ret z => exact .one (ho z rfl)
abbrev D6 := List Int × List (List Int) × List Bool
/-- What is known of a machine of states. -/
structure Df (d : D6) : Prop where
 some : 1 ≤ d.2.1.length
 many : d.2.1.length ≤ 60
 fin : d.2.2.length = d.2.1.length
 cuts : d.1.length ≤ 40
 rows : ∀ r ∈ d.2.1, r.length = d.1.length + 1 ∧ ∀ x ∈ r, 0 ≤ x ∧ x < d.2.1.length
/-- All but the first are lists of places. -/
def Sets6 (m : Int) (L : List (List Int)) : Prop := ∀ j (h : j < L.length), 1 ≤ j → Sm m L[j]
theorem Sets6.app {m : Int} {L : List (List Int)} {x : List Int} (h : Sets6 m L) (hx : Sm m x) : Sets6 m (L ++ [x]) := fun j hj h1 => by
 by_cases e : j < L.length
 ·rw [List.getElem_append_left e]; exact h j e h1
 ·rw [List.getElem_append_right (by omega)]
  simp only [List.length_append, List.length_singleton] at hj
  have : j - L.length = 0 := by omega
  simp only [this, List.getElem_cons_zero]
  exact hx
theorem t_dfa3 {n : N6} (h : Nf n) {beh : List Int} (hb : Sm n.2.1.length beh) (cs : List Int) (hc : cs.length ≤ 41) (L : List (List Int)) (hL : Sets6 n.2.1.length L) (h1 : 1 ≤ L.length) (h60 : L.length ≤ 60) :
  Tt (z09.l3 n.1 n.2.1 n.2.2.1 n.2.2.2.1 n.2.2.2.2 beh cs (((cs.length : Int) - 0).toNat + 2) L [] 0) fun o => Sets6 n.2.1.length o.1 ∧ L.length ≤ o.1.length ∧ o.2.length = cs.length ∧ ∀ x ∈ o.2, 0 ≤ x ∧ x < o.1.length := by
 refine t_iter cs.length (fun i (o : List (List Int) × List Int) => Sets6 n.2.1.length o.1 ∧ L.length ≤ o.1.length ∧ o.1.length ≤ 60 + i ∧ o.2.length = i ∧ ∀ x ∈ o.2, 0 ≤ x ∧ x < o.1.length) _ (fun k i o => z09.l3 n.1 n.2.1 n.2.2.1 n.2.2.2.1 n.2.2.2.2 beh cs k o.1 o.2 (i : Int)) (fun k i st hi g ih => ?_) (fun k st g => ?_) _ 0 (L, []) (by omega) (by omega) ⟨hL, Nat.le_refl _, by omega, rfl, fun x hx => by cases hx⟩
 ·obtain ⟨A, R⟩ := st
  obtain ⟨g1, g2, g3, g4, g5⟩ := g
  dsimp only at g1 g2 g3 g4 g5
  show Tt (z09.l3 _ _ _ _ _ beh cs (k + 1) A R (i : Int)) _
  rw [z09.l3, if_pos (by simp; omega), rd?_at hi]
  simp only [Option.bind_some]
  refine (t_step h hb _).bind fun to hto => ?_
  have hm := h.many
  have hto' := hto.len
  refine (t_index A to (by omega) (by omega)).bind fun at_ hat => ?_
  refine Tt.bind (Φ := fun o : List (List Int) × Int => Sets6 n.2.1.length o.1 ∧ A.length ≤ o.1.length ∧ o.1.length ≤ A.length + 1 ∧ 0 ≤ o.2 ∧ o.2 < o.1.length) (Tt.ite (fun c => (Tt.app (by simp; omega)).bind fun A' hA' => .one ?_) fun c => .one ⟨g1, Nat.le_refl _, by dsimp only; omega, by dsimp only; simpa using c, hat⟩) fun o ho => ?_
  ·subst hA'
   exact ⟨g1.app hto, by simp, by simp, by dsimp only; omega, by simp only [List.length_append, List.length_singleton]; omega⟩
  ·obtain ⟨A', a⟩ := o
   obtain ⟨o1, o2, o3, o4, o5⟩ := ho
   dsimp only at o1 o2 o3 o4 o5 ⊢
   refine (Tt.app (by simp; omega)).bind fun R' hR' => ?_
   subst hR'
   rw [y03 i (by omega)]
   refine ih (A', R ++ [a]) ⟨o1, by dsimp only; omega, by dsimp only; omega, by simp; omega, fun x hx => ?_⟩
   rcases List.mem_append.1 hx with hx | hx
   ·have := g5 x hx; exact ⟨this.1, by dsimp only; omega⟩
   ·rw [List.mem_singleton.1 hx]; exact ⟨o4, o5⟩
 ·obtain ⟨A, R⟩ := st
  obtain ⟨g1, g2, g3, g4, g5⟩ := g
  show Tt (z09.l3 _ _ _ _ _ beh cs (k + 1) A R (cs.length : Int)) _
  rw [z09.l3, if_neg (by simp)]
  exact .one ⟨g1, g2, g4, g5⟩
theorem t_dfa2 (la beh l : List Int) (hl : l.length ≤ 1000) (hla : la.length ≤ 1000) : Tt (z09.l2 la beh l (((l.length : Int) - 0).toNat + 2) false 0) fun o => o.2 = beh := by
 refine t_iter l.length (fun i (_ : Bool) => True) _ (fun k i b => z09.l2 la beh l k b (i : Int)) (fun k i st hi _ ih => ?_) (fun k st _ => ?_) _ 0 false (by omega) (by omega) trivial
 ·show Tt (z09.l2 la beh l (k + 1) st (i : Int)) _
  rw [z09.l2, if_pos (by simp; omega), rd?_at hi]
  simp only [Option.bind_some]
  refine Tt.bind (Φ := fun _ => True) (Tt.ite (fun _ => .one trivial) fun _ => (t_has _ _ (by omega)).bind fun _ _ => .one trivial) fun b _ => ?_
  rw [y03 i (by omega)]
  exact ih b trivial
 ·show Tt (z09.l2 la beh l (k + 1) st (l.length : Int)) _
  rw [z09.l2, if_neg (by simp)]
  exact .one rfl
structure Dl (n : N6) (cu : List Int) (L : List (List Int)) (k : Nat) (nx : List (List Int)) (fi : List Bool) : Prop where
 sets : Sets6 n.2.1.length L
 some : 1 ≤ L.length
 many : L.length ≤ 60
 le : k ≤ L.length
 lnx : nx.length = k
 lfi : fi.length = k
 rows : ∀ r ∈ nx, r.length = cu.length + 1 ∧ ∀ x ∈ r, 0 ≤ x ∧ x < L.length
theorem t_DfaOf {n : N6} (h : Nf n) : Tt (z09.f n.1 n.2.1 n.2.2.1 n.2.2.2.1 n.2.2.2.2) fun d => d.2.2.2 = true → Df (d.1, d.2.1, d.2.2.1) := by
 unfold z09.f
 refine (t_CutsOf h).bind fun u hu => Tt.ite (fun _ => .one fun h => by cases h) fun _ => ?_
 obtain ⟨cu, ok⟩ := u
 dsimp only at hu ⊢
 have hm := h.many
 have hfi := h.first.len
 have hla := h.last.len
 have key : ∀ (f k : Nat) (L : List (List Int)) (nx : List (List Int)) (fi : List Bool), 61 - k < f → Dl n cu L k nx fi → Tt (z09.l1 n.1 n.2.1 n.2.2.1 n.2.2.2.1 n.2.2.2.2 (cu, ok) f L (k : Int) nx fi) fun o => match o with | .go (a, b) => Df (cu, a, b) | .ret z => z.2.2.2 = false := by
  intro f
  induction f with
  | zero => intro k _ _ _ h; omega
  | succ f ih =>
   intro k L nx fi hf g
   obtain ⟨g1, g2, g3, g4, g5, g6, g7⟩ := g
   rw [z09.l1]
   refine Tt.ite (fun c => ?_) fun c => .one ?_
   ·have c : k < L.length := by have := of_decide_eq_true c; omega
    refine Tt.bind (Φ := fun o => match o with | .go (a, b, c) => Dl n cu a (k + 1) b c | .ret z => match z with | .go _ => False | .ret z => z.2.2.2 = false) ?_ fun o ho => ?_
    ·refine Tt.bind (Φ := fun o : Bool × List Int => Sm n.2.1.length o.2) (Tt.ite (fun d => ?_) fun _ => .one h.first) fun o ho => ?_
     ·have d : 1 ≤ k := by have := of_decide_eq_true d; omega
      rw [rd?_at c]
      simp only [Option.bind_some]
      have hs := g1 k c d
      have hsl := hs.len
      exact (t_behind h hs).bind fun b hb => (t_dfa2 _ b _ (by omega) (by omega)).mono fun r hr => by rw [hr]; exact hb
     ·obtain ⟨fb, beh⟩ := o
      dsimp only at ho ⊢
      refine (Tt.app (by simp; omega)).bind fun cs hcs => ?_
      have hcl : cs.length = cu.length + 1 := by rw [hcs]; simp
      refine (t_dfa3 h ho cs (by omega) L g1 g2 g3).bind fun o ho => ?_
      obtain ⟨L', row⟩ := o
      obtain ⟨o1, o2, o3, o4⟩ := ho
      dsimp only at o1 o2 o3 o4 ⊢
      refine (Tt.app (by simp; omega)).bind fun nx' hn => (Tt.app (by simp; omega)).bind fun fi' hfi' => Tt.ite (fun _ => .one rfl) fun e => .one ?_
      have e : L'.length ≤ 60 := by simp at e; omega
      subst hn hfi'
      refine ⟨o1, by omega, e, by omega, by simp; omega, by simp; omega, fun r hr => ?_⟩
      rcases List.mem_append.1 hr with hr | hr
      ·obtain ⟨r1, r2⟩ := g7 r hr
       exact ⟨r1, fun x hx => ⟨(r2 x hx).1, by have := (r2 x hx).2; omega⟩⟩
      ·rw [List.mem_singleton.1 hr]; exact ⟨by omega, o4⟩
    ·cases o with
     | go x =>
      obtain ⟨a, b, c'⟩ := x
      dsimp only at ho ⊢
      rw [y03 k (by omega)]
      exact ih (k + 1) a b c' (by omega) ho
     | ret z =>
      cases z with
      | go x => exact ho.elim
      | ret z => exact .one ho
   ·have c : k = L.length := by simp at c; omega
    exact ⟨by dsimp only; omega, by dsimp only; omega, by dsimp only; omega, hu, fun r hr => by
     obtain ⟨r1, r2⟩ := g7 r hr
     exact ⟨r1, fun x hx => ⟨(r2 x hx).1, by have := (r2 x hx).2; dsimp only; omega⟩⟩⟩
 refine Tt.bind (key 70 0 [[-1]] [] [] (by omega) ⟨fun j hj h1 => by simp at hj; omega, by simp, by simp, by simp, rfl, rfl, fun r hr => by cases hr⟩) fun o ho => ?_
 cases o with
 | go x => exact .one fun _ => ho
 | ret z => exact .one fun h => by rw [show z.2.2.2 = false from ho] at h; cases h
theorem t_entry {d : D6} (h : Df d) (r : Int) : Tt (zn.f d.1 d.2.1 d.2.2 r) fun o => 0 ≤ o ∧ o ≤ d.1.length := by
 have hc := h.cuts
 unfold zn.f
 refine Tt.bind (Φ := fun o : Int => 0 ≤ o ∧ o ≤ d.1.length) ?_ fun o ho => .one ho
 refine t_look d.1.length (fun k i => zn.l1 d.1 r k i) (by omega) (fun k i hi ih => ?_) (fun k => ?_) _ (by omega)
 ·show Tt (zn.l1 d.1 r (k + 1) (i : Int)) _
  rw [zn.l1, if_pos (by simp; omega), rd?_at hi]
  simp only [Option.bind_some]
  exact Tt.ite (fun _ => ih) fun _ => .one ⟨by omega, by omega⟩
 ·show Tt (zn.l1 d.1 r (k + 1) (d.1.length : Int)) _
  rw [zn.l1, if_neg (by simp)]
  simp only [Option.bind_some, Bool.false_eq_true, if_false]
  exact .one ⟨by omega, by omega⟩
theorem t_runDfa {d : D6} (h : Df d) (l : List Int) (hl : l.length ≤ 1000000) : Tt (zo.f d.1 d.2.1 d.2.2 l) fun _ => True := by
 have h1 := h.some
 have h2 := h.fin
 unfold zo.f
 refine Tt.bind (Φ := fun o : Int => 0 ≤ o ∧ o < d.2.1.length) ?_ fun o ho => (Tt.rd ho.1 (by omega)).bind fun _ _ => .one trivial
 refine t_iter l.length (fun i (o : Int) => 0 ≤ o ∧ o < d.2.1.length) _ (fun k i o => zo.l1 d.1 d.2.1 d.2.2 l k o (i : Int)) (fun k i st hi g ih => ?_) (fun k st g => ?_) _ 0 0 (by omega) (by omega) ⟨by omega, by omega⟩
 ·show Tt (zo.l1 d.1 d.2.1 d.2.2 l (k + 1) st (i : Int)) _
  rw [zo.l1, if_pos (by simp; omega), rd?_at hi]
  simp only [Option.bind_some]
  refine (Tt.rd g.1 g.2).bind fun r hr => (t_entry h _).bind fun e he => ?_
  obtain ⟨r1, r2⟩ := h.rows r hr
  refine (Tt.rd he.1 (by omega)).bind fun x hx => ?_
  rw [y03 i (by omega)]
  exact ih x (r2 x hx)
 ·show Tt (zo.l1 d.1 d.2.1 d.2.2 l (k + 1) st (l.length : Int)) _
  rw [zo.l1, if_neg (by simp)]
  exact .one g
theorem t_all (l : List Int) (a b : Int) (hl : l.length ≤ 1000000) : Tt (zj.f l a b) fun _ => True := by
 unfold zj.f
 refine Tt.bind (Φ := fun _ => True) ?_ fun o _ => by cases o <;> exact .one trivial
 refine t_look l.length (fun k i => zj.l1 l a b k i) (by omega) (fun k i hi ih => ?_) (fun k => ?_) _ (by omega)
 ·show Tt (zj.l1 l a b (k + 1) (i : Int)) _
  rw [zj.l1, if_pos (by simp; omega), rd?_at hi]
  simp only [Option.bind_some]
  exact (t_in _ _ _).bind fun _ _ => Tt.ite (fun _ => .one trivial) fun _ => ih
 ·show Tt (zj.l1 l a b (k + 1) (l.length : Int)) _
  rw [zj.l1, if_neg (by simp)]
  exact .one trivial
theorem t_GoodDfa {d : D6} (h : Df d) : Tt (z0b.f d.1 d.2.1 d.2.2) fun _ => True := by
 obtain ⟨cu, nx, fi⟩ := d
 obtain ⟨h1, h2, h3, h4, h5⟩ := h
 dsimp only at *
 unfold z0b.f
 refine Tt.bind (Φ := fun _ => True) ((t_in _ _ _).bind fun _ _ => Tt.ite (fun _ => .one trivial) fun _ => Tt.ite (fun _ => .one trivial) fun _ => Tt.ite (fun _ => .one trivial) fun _ => (t_rising _ _ _ (by omega)).bind fun _ _ => .one trivial) fun o _ => Tt.ite (fun _ => .one trivial) fun _ => ?_
 refine Tt.bind (Φ := fun _ => True) ?_ fun o _ => by cases o <;> exact .one trivial
 refine t_look nx.length (fun k i => z0b.l1 cu nx k i) (by omega) (fun k i hi ih => ?_) (fun k => ?_) _ (by omega)
 ·show Tt (z0b.l1 cu nx (k + 1) (i : Int)) _
  rw [z0b.l1, if_pos (by simp; omega), rd?_at hi]
  simp only [Option.bind_some]
  have := (h5 _ (List.getElem_mem hi)).1
  exact Tt.bind (Φ := fun _ => True) (Tt.ite (fun _ => .one trivial) fun _ => (t_all _ _ _ (by omega)).bind fun _ _ => .one trivial) fun o _ => Tt.ite (fun _ => .one trivial) fun _ => ih
 ·show Tt (z0b.l1 cu nx (k + 1) (nx.length : Int)) _
  rw [z0b.l1, if_neg (by simp)]
  exact .one trivial
/-- Numbers below a bound, none twice: at most so many. -/
theorem few : ∀ (N : Nat) (l : List Int), l.Nodup → (∀ x ∈ l, 0 ≤ x ∧ x < N) → l.length ≤ N
 | 0, l, _, h => by
  cases l with
  | nil => simp
  | cons x l => have := h x (List.mem_cons_self ..); omega
 | N + 1, l, hn, h => by
  have := few N (l.erase (N : Int)) (hn.erase _) fun x hx => by
   have h1 := h x (List.mem_of_mem_erase hx)
   have h2 : x ≠ (N : Int) := fun e => by
    subst e
    exact (List.Nodup.not_mem_erase hn) hx
   omega
  rw [List.length_erase] at this
  split at this <;> omega
structure Sl (d : D6) (W : List (List Int)) (st : List Int) : Prop where
 len : W.length = st.length
 nod : st.Nodup
 inn : ∀ x ∈ st, 0 ≤ x ∧ x < d.2.1.length
 small : ∀ j (h : j < W.length), W[j].length ≤ j
theorem Sl.many {d : D6} {W : List (List Int)} {st : List Int} (h : Sl d W st) : st.length ≤ d.2.1.length := few _ _ h.nod h.inn
theorem Sl.add {d : D6} {W : List (List Int)} {st : List Int} (h : Sl d W st) {w : List Int} {x : Int} (h0 : 0 ≤ x) (h1 : x < d.2.1.length) (hx : x ∉ st) (hw : w.length ≤ W.length) : Sl d (W ++ [w]) (st ++ [x]) := by
 refine ⟨by simp [h.len], ?_, fun y hy => ?_, fun j hj => ?_⟩
 ·rw [List.nodup_append]
  refine ⟨h.nod, by simp, fun a ha b hb => ?_⟩
  rw [List.mem_singleton.1 hb]
  exact fun e => hx (e ▸ ha)
 ·rcases List.mem_append.1 hy with hy | hy
  ·exact h.inn y hy
  ·rw [List.mem_singleton.1 hy]; exact ⟨h0, h1⟩
 ·by_cases e : j < W.length
  ·rw [List.getElem_append_left e]; exact h.small j e
  ·rw [List.getElem_append_right (by omega)]
   simp only [List.length_append, List.length_singleton] at hj
   have : j - W.length = 0 := by omega
   simp only [this, List.getElem_cons_zero]
   omega
theorem t_short2 {d : D6} (h : Df d) (i : Nat) {row : List Int} (hr : row ∈ d.2.1) (W : List (List Int)) (st : List Int) (hi : i < st.length) (g : Sl d W st) : Tt (z0c.l2 d.1 (i : Int) row (((row.length : Int) - 0).toNat + 2) W st 0) fun o => Sl d o.1 o.2 ∧ st.length ≤ o.2.length := by
 obtain ⟨r1, r2⟩ := h.rows row hr
 have hm := h.many
 have hc := h.cuts
 refine t_iter row.length (fun _ (o : List (List Int) × List Int) => Sl d o.1 o.2 ∧ st.length ≤ o.2.length) _ (fun k j o => z0c.l2 d.1 (i : Int) row k o.1 o.2 (j : Int)) (fun k j o hj g ih => ?_) (fun k o g => ?_) _ 0 (W, st) (by omega) (by omega) ⟨g, Nat.le_refl _⟩
 ·obtain ⟨A, S⟩ := o
  obtain ⟨g1, g2⟩ := g
  dsimp only at g1 g2
  show Tt (z0c.l2 d.1 (i : Int) row (k + 1) A S (j : Int)) _
  rw [z0c.l2, if_pos (by simp; omega), rd?_at hj]
  simp only [Option.bind_some]
  have hx := r2 _ (List.getElem_mem hj)
  have hS := g1.many
  have hA := g1.len
  refine Tt.bind (Φ := fun o : List (List Int) × List Int => Sl d o.1 o.2 ∧ st.length ≤ o.2.length) ?_ fun o ho => ?_
  ·refine (t_has S _ (by omega)).bind fun b hb => Tt.ite (fun c => ?_) fun _ => .one ⟨g1, g2⟩
   have hn : row[j] ∉ S := fun hm => by
    rw [hb] at c
    simp [hm] at c
   refine Tt.bind (Φ := fun _ => True) (Tt.ite (fun e => ?_) fun _ => .one trivial) fun r _ => ?_
   ·have e : (j : Int) > 0 := of_decide_eq_true e
    exact (Tt.rd (by rw [yv (by omega) (by omega)]; omega) (by rw [yv (by omega) (by omega)]; omega)).bind fun _ _ => .one trivial
   ·refine (Tt.app (by simp; omega)).bind fun S' hS' => ?_
    have hiA : i < A.length := by omega
    have hsm := g1.small i hiA
    rw [rd?_at hiA]
    simp only [Option.bind_some]
    rw [p_own _ (by unfold big; omega)]
    simp only [Option.bind_some]
    refine (Tt.app (by simp; omega)).bind fun w hw => (Tt.app (by simp; omega)).bind fun A' hA' => .one ?_
    subst hS' hw hA'
    exact ⟨g1.add hx.1 hx.2 hn (by simp; omega), by simp; omega⟩
  ·obtain ⟨A', S'⟩ := o
   dsimp only
   rw [y03 j (by omega)]
   exact ih (A', S') ho
 ·obtain ⟨A, S⟩ := o
  show Tt (z0c.l2 d.1 (i : Int) row (k + 1) A S (row.length : Int)) _
  rw [z0c.l2, if_neg (by simp)]
  exact .one g
theorem t_short {d : D6} (h : Df d) : Tt (z0c.f d.1 d.2.1 d.2.2) fun r => r.1.length ≤ 60 := by
 have hs := h.some
 have hm := h.many
 have hf := h.fin
 unfold z0c.f
 have key : ∀ (f i : Nat) (W : List (List Int)) (st : List Int), 61 - i < f → i ≤ st.length → Sl d W st → Tt (z0c.l1 d.1 d.2.1 d.2.2 f W st (i : Int)) fun o => match o with | .go _ => True | .ret z => z.1.length ≤ 60 := by
  intro f
  induction f with
  | zero => intro i _ _ h; omega
  | succ f ih =>
   intro i W st hf' hi g
   have hst := g.many
   have hW := g.len
   rw [z0c.l1]
   refine Tt.ite (fun c => ?_) fun c => .one trivial
   have c : i < st.length := by have := of_decide_eq_true c; omega
   refine Tt.bind (Φ := fun o => match o with | .go (a, b) => Sl d a b ∧ st.length ≤ b.length | .ret z => match z with | .go _ => False | .ret z => z.1.length ≤ 60) ?_ fun o ho => ?_
   ·rw [rd?_at c]
    simp only [Option.bind_some]
    have hx := g.inn _ (List.getElem_mem c)
    refine (Tt.rd hx.1 (by omega)).bind fun b _ => Tt.ite (fun _ => ?_) fun _ => ?_
    ·have hiW : i < W.length := by omega
     have hsm := g.small i hiW
     rw [rd?_at hiW]
     simp only [Option.bind_some]
     rw [p_own _ (by unfold big; omega)]
     exact .one (by show W[i].length ≤ 60; omega)
    ·refine (Tt.rd hx.1 hx.2).bind fun row hrow => (t_short2 h i hrow W st c g).bind fun o ho => ?_
     obtain ⟨a, b⟩ := o
     exact .one ho
   ·cases o with
    | go x =>
     obtain ⟨a, b⟩ := x
     dsimp only at ho ⊢
     rw [y03 i (by omega)]
     exact ih (i + 1) a b (by omega) (by omega) ho.1
    | ret z =>
     cases z with
     | go x => exact ho.elim
     | ret z => exact .one ho
 refine Tt.bind (key 70 0 [[]] [0] (by omega) (by simp) ⟨rfl, by simp, fun x hx => by rw [List.mem_singleton.1 hx]; omega, fun j hj => by simp at hj; subst hj; simp⟩) fun o ho => ?_
 cases o with
 | go x => exact .one (by simp)
 | ret z => exact .one ho
theorem t_ShortIn {d : D6} (h : Df d) : Tt (z0d.f d.1 d.2.1 d.2.2) fun r => r.1.length ≤ 60 := by
 unfold z0d.f
 exact (t_GoodDfa h).bind fun _ _ => Tt.ite (fun _ => .one (by simp)) fun _ => (t_short h).bind fun r hr => .one hr
theorem t_word {code : List Int} (hc : allW (inK .u8) code) {a s : Int} (h0 : 0 ≤ a) (h1 : a ≤ 1000000) : Tt (z0a.f code a s) fun r => r.1.length ≤ 41 ∧ a ≤ r.2.1 ∧ r.2.1 ≤ a + 30 := by
 unfold z0a.f
 refine (t_pick hc h0 (by omega)).bind fun x hx => ?_
 have hx6 := hx.2.1 (by omega)
 obtain ⟨n, hn⟩ := Int.eq_ofNat_of_zero_le hx.1
 have key : ∀ (n f : Nat) (l : List Int) (a s : Int), n < f → 0 ≤ a → a ≤ 2000000 - 2 * n → l.length + n ≤ 10 → Tt (z0a.l1 code f l (n : Int) a s) fun r => r.1.length ≤ 10 ∧ a ≤ r.2.1 ∧ r.2.1 ≤ a + 2 * n := by
  intro n
  induction n with
  | zero =>
   intro f l a s hf _ _ hl
   obtain ⟨f, rfl⟩ := Nat.exists_eq_succ_of_ne_zero (show f ≠ 0 by omega)
   rw [z0a.l1, if_neg (by simp)]
   exact .one ⟨by dsimp only; omega, by dsimp only; omega, by dsimp only; omega⟩
  | succ n ih =>
   intro f l a s hf ha ha2 hl
   obtain ⟨f, rfl⟩ := Nat.exists_eq_succ_of_ne_zero (show f ≠ 0 by omega)
   rw [z0a.l1, if_pos (by simp <;> omega)]
   refine (t_among hc (by decide) ha (by omega)).bind fun x hx => (Tt.app (by simp; omega)).bind fun l' hl' => ?_
   subst hl'
   rw [yv (n := ((n + 1 : Nat) : Int) - 1) (by omega) (by omega), show ((n + 1 : Nat) : Int) - 1 = (n : Int) by omega]
   exact (ih f (l ++ [x.1]) x.2.1 x.2.2 (by omega) (by omega) (by omega) (by simp; omega)).mono fun r hr => ⟨hr.1, by omega, by omega⟩
 rw [hn]
 refine (key n _ [] x.2.1 x.2.2 (by omega) (by omega) (by omega) (by simp; omega)).bind fun o ho => ?_
 obtain ⟨l, a2, s2⟩ := o
 dsimp only at ho ⊢
 refine Tt.bind (Φ := fun r : List Int × Int × Int => r.1.length ≤ 41 ∧ a ≤ r.2.1 ∧ r.2.1 ≤ a + 30) ?_ fun o ho => .one ho
 refine (t_one hc (by omega) (by omega)).bind fun y hy => Tt.ite (fun _ => ?_) fun _ => .one ⟨by dsimp only; omega, by dsimp only; omega, by dsimp only; omega⟩
 refine (t_pick hc (by omega) (by omega)).bind fun z hz => ?_
 have hz1 := hz.2.1 (by omega)
 obtain ⟨m, hm⟩ := Int.eq_ofNat_of_zero_le hz.1
 rw [hm, yv (by omega) (by omega), show (40 : Int) + m = ((40 + m : Nat) : Int) by omega, mk?_at (by omega)]
 exact .one ⟨by simp; omega, by dsimp only; omega, by dsimp only; omega⟩
theorem t_NfaOf (p : List Nd) (hp : p.length ≤ 1000) (hq : ∀ u ∈ p, u.2.length ≤ 1000) : Tt (zy.f p) fun n => n.2.2.2.2.2 = true → Nf (n.1, n.2.1, n.2.2.1, n.2.2.2.1, n.2.2.2.2.1) := by
 unfold zy.f
 rw [p_specPlain p (by unfold big; omega) (fun u hu => by have := hq u hu; unfold big; omega)]
 simp only [Option.bind_some]
 cases h1 : okRe p with
 | false => exact ⟨_, rfl, fun h => by cases h⟩
 | true =>
  cases h2 : p.all okPl with
  | false => exact ⟨_, rfl, fun h => by cases h⟩
  | true =>
   simp only [Bool.and_self, Bool.not_true, Bool.false_eq_true, if_false, Option.bind_some]
   exact (t_l6Nfa h1 h2).bind fun n hn => .one fun _ => hn
theorem t_matched {code : List Int} (hc : allW (inK .u8) code) {a s : Int} (h0 : 0 ≤ a) (h1 : a ≤ 10000) : Tt (z0e.f code a s) fun r => smRe 31 r.1 ∧ r.2.1.length ≤ 60 ∧ a ≤ r.2.2.1 ∧ r.2.2.1 ≤ a + 2000 := by
 unfold z0e.f
 refine (t_pick hc h0 (by omega)).bind fun x hx => (t_one hc (by omega) (by omega)).bind fun y hy => ?_
 have hx3 := hx.2.1 (by omega)
 obtain ⟨m, hm⟩ := Int.eq_ofNat_of_zero_le hx.1
 rw [hm, yv (by omega) (by omega), show (1 : Int) + m = ((1 + m : Nat) : Int) by omega]
 have hsz : szR (1 + m) ≤ 32 := by
  have : m = 0 ∨ m = 1 ∨ m = 2 ∨ m = 3 := by omega
  rcases this with rfl | rfl | rfl | rfl <;> decide
 unfold zm.f
 refine (t_re hc _ (1 + m) (by omega) _ y.2.1 y.2.2 (by omega) (by omega) (by omega)).bind fun p hp => ?_
 have hp1 : smRe 31 p.1 := hp.1.mono (by omega)
 refine Tt.bind (Φ := fun o : Lo (Int × Int) (List Nd × List Int × Int × Int) => match o with | .go (a', _) => a ≤ a' ∧ a' ≤ a + 1900 | .ret z => smRe 31 z.1 ∧ z.2.1.length ≤ 60 ∧ a ≤ z.2.2.1 ∧ z.2.2.1 ≤ a + 2000) ?_ fun o ho => ?_
 ·refine (t_NfaOf p.1 (by have := hp1.1; omega) (fun u hu => by have := hp1.2 u hu; omega)).bind fun n hn => ?_
  refine Tt.bind (Φ := fun o : Bool × Int × Int => (o.1 = true → Nf (n.1, n.2.1, n.2.2.1, n.2.2.2.1, n.2.2.2.2.1)) ∧ a ≤ o.2.1 ∧ o.2.1 ≤ a + 1700) (Tt.ite (fun c => (t_one hc (by omega) (by omega)).bind fun z hz => .one ⟨fun _ => hn c, by dsimp only; omega, by dsimp only; omega⟩) fun _ => .one ⟨fun h => (by cases h), by dsimp only; omega, by dsimp only; omega⟩) fun o ho => ?_
  obtain ⟨b, a2, s2⟩ := o
  dsimp only at ho ⊢
  refine Tt.ite (fun c => ?_) fun _ => .one ⟨by omega, by omega⟩
  refine (t_DfaOf (ho.1 c)).bind fun d hd => Tt.ite (fun c2 => ?_) fun _ => .one ⟨by omega, by omega⟩
  have hd := hd c2
  refine (t_word hc (by omega) (by omega)).bind fun w hw => ?_
  have loop : ∀ (f : Nat) (k : Int), -1 ≤ k → k ≤ w.1.length → k + 1 < f → Tt (z0e.l1 p d w f k) fun o : Lo Unit (Lo (Int × Int) (List Nd × List Int × Int × Int)) => match o with | .go _ => True | .ret z => match z with | .go _ => False | .ret z => smRe 31 z.1 ∧ z.2.1.length ≤ 60 ∧ a ≤ z.2.2.1 ∧ z.2.2.1 ≤ a + 2000 := by
   intro f
   induction f with
   | zero => intro k h _ h2; omega
   | succ f ih =>
    intro k k0 k1 k2
    rw [z0e.l1]
    refine Tt.bind (Φ := fun b => b = true → 0 ≤ k ∧ w.1.length ≤ 20) (Tt.ite (fun c => .one fun c' => ⟨of_decide_eq_true c, by have := of_decide_eq_true c'; omega⟩) fun _ => .one fun h => by cases h) fun b hb => Tt.ite (fun c => ?_) fun _ => .one trivial
    obtain ⟨k3, k4⟩ := hb c
    obtain ⟨q, rfl⟩ := Int.eq_ofNat_of_zero_le k3
    have hcut : cut? w.1 0 (q : Int) = some (w.1.take q) := cutT (by omega)
    rw [hcut]
    simp only [Option.bind_some]
    refine (t_runDfa hd (w.1.take q) (by simp; omega)).bind fun r _ => Tt.ite (fun _ => .one ⟨hp1, by simp; omega, by dsimp only; omega, by dsimp only; omega⟩) fun _ => ?_
    rw [yv (by omega) (by omega)]
    exact ih _ (by omega) (by omega) (by omega)
  refine (loop _ _ (by omega) (Int.le_refl _) (by omega)).bind fun o ho' => ?_
  cases o with
  | go u =>
   dsimp only
   refine (t_ShortIn hd).bind fun v hv => ?_
   refine Tt.bind (Φ := fun _ => True) (Tt.ite (fun _ => ?_) fun _ => .one trivial) fun b _ => Tt.ite (fun _ => .one ⟨hp1, hv, by dsimp only; omega, by dsimp only; omega⟩) fun _ => .one ⟨by omega, by omega⟩
   rw [p_allRunes _ (by unfold big; omega)]
   exact .one trivial
  | ret z =>
   cases z with
   | go u => exact ho'.elim
   | ret z => exact .one ho'
 ·cases o with
  | go u =>
   obtain ⟨a', s'⟩ := u
   dsimp only at ho ⊢
   exact (t_word hc (by omega) (by omega)).bind fun w hw => .one ⟨hp1, by dsimp only; omega, by dsimp only; omega, by dsimp only; omega⟩
  | ret z => exact .one ho
theorem p_big (p q : List Int) (hp : p.length ≤ maxN) : z4.f p q = some (decide ((p.length : Int) + q.length > 1048576)) := by
 unfold z4.f
 unfold maxN at hp
 by_cases h : (p.length : Int) > 1048576
 ·rw [if_pos (by simpa using h)]
  simp; omega
 ·rw [if_neg (by simpa using h), yv (by omega) (by omega)]
  congr 1
  rw [Bool.eq_iff_iff]
  simp; omega
/-- What is known of a pattern that may be parsed. -/
structure Pf (p : List Nd) (K : List (List Int)) : Prop where
 kids : Kids p K p.length
 one : 1 ≤ p.length
 few : p.length ≤ 40
 set : ∀ u ∈ p, u.2.length ≤ 1000 ∧ u.2.length % 2 = 0
 plain : ∀ u ∈ p, u.1 ≠ 5 ∧ u.1 ≠ 7
 pile : ∃ q, pileR p 0 [] [] = some (K, q)
theorem can_Pf {p : List Nd} {l : List Int} (h : can p l = true) : ∃ K, Pf p K := by
 obtain ⟨h1, h2, h3, h4⟩ := can_facts h
 obtain ⟨q1, q2, q3, K, q, q4⟩ := okRe_facts h1
 refine ⟨K, (kids_of p (by omega) p [] [] [] K q rfl rfl ⟨rfl, fun k hk => by simp at hk⟩ q4).1, q1, q2, fun u hu => ⟨by have := q3 u hu; omega, (q3 u hu).2⟩, fun u hu => ?_, q, q4⟩
 have := List.all_eq_true.1 h2 u hu
 unfold okPl at this
 simp at this
 exact this
def tp (p : List Nd) (K : List (List Int)) (l : List Int) : Bool := tA p K l ((p.length - 1 : Nat) : Int) 0 l.length
def cp (p : List Nd) (K : List (List Int)) (l : List Int) : Int := cnt l (getT (trs p K) ((p.length - 1 : Nat) : Int)) 0 l.length
def pp (p : List Nd) (K : List (List Int)) (l : List Int) : List Sp := prs p K l (p.length - 1 + 2) (p.length - 1) 0 l.length
section
variable {p : List Nd} {l : List Int} (hp : p.length ≤ big) (hq : ∀ u ∈ p, u.2.length ≤ big) (hl : l.length ≤ big)
include hp hq hl
theorem n_Count (h : can p l = false) : z1l.f p l = some (0, false) ∧ z1o.f p l = some (0, false) := by
 unfold z1l.f z1o.f
 obtain ⟨a, b⟩ := q_can p l hp hq hl
 rw [a, b, h]
 exact ⟨rfl, rfl⟩
theorem n_Parse (h : can p l = false) : z1b.f p l = some ([], false) ∧ z1i.f p l = some ([], false) := by
 unfold z1b.f z1i.f
 obtain ⟨a, b⟩ := q_can p l hp hq hl
 rw [a, b, h]
 exact ⟨rfl, rfl⟩
theorem n_Check {s : List Sp} (h : (can p l && decide (s.length ≤ 200)) = false) : z1v.f p l s = some (false, false) ∧ z24.f p l s = some (false, false) := by
 unfold z1v.f z24.f
 obtain ⟨a, b⟩ := q_can p l hp hq hl
 rw [a, b]
 cases hc : can p l with
 | false => exact ⟨rfl, rfl⟩
 | true =>
  rw [hc, Bool.true_and, decide_eq_false_iff_not] at h
  simp only [Option.bind_some, Bool.not_true, Bool.false_eq_true, if_false]
  have : decide ((s.length : Int) > 200) = true := by simp; omega
  rw [this]
  exact ⟨rfl, rfl⟩
theorem y_Count (h : can p l = true) {K : List (List Int)} (f : Pf p K) : z1l.f p l = some (cp p K l, true) ∧ z1o.f p l = some (cp p K l, true) := by
 unfold z1l.f z1o.f
 obtain ⟨a, b⟩ := q_can p l hp hq hl
 rw [a, b, h]
 simp only [Option.bind_some, Bool.not_true, Bool.false_eq_true, if_false]
 obtain ⟨hK, f1, f2, hset, hne, q, q4⟩ := f
 have h3 := (can_facts h).2.2.1
 obtain ⟨_, tb, e1, e2, e3⟩ := p_counts (l := l) (by omega) (fun u hu => (hset u hu).1) hne (by omega) q4
 obtain ⟨ts, g1, g2, g3⟩ := p_specCounts (l := l) (by omega) hset hne (by omega) hK
 obtain ⟨rows, i1, i2⟩ := e3 (p.length - 1) (by omega)
 obtain ⟨row, r1, r2⟩ := i2.rd (f := 0) (t := l.length) (by omega) (by omega) (by omega) (by omega)
 obtain ⟨fl, k1, k2⟩ := g3 (p.length - 1) (by omega)
 have k3 := k2.2 0 l.length (by omega) (by omega)
 rw [Nat.zero_mul, Nat.zero_add] at k3
 have hw : IntKind.i64.wrap ((p.length : Int) - 1) = ((p.length - 1 : Nat) : Int) := by rw [yv (by omega) (by omega)]; omega
 rw [e1, g1]
 simp only [Option.bind_some]
 rw [hw, rd?_get' i1, rd?_get' k1]
 simp only [Option.bind_some]
 rw [rd?_get' k3, show rd? rows 0 = some row from r1]
 simp only [Option.bind_some]
 rw [r2]
 exact ⟨rfl, rfl⟩
theorem y_Parse (h : can p l = true) {K : List (List Int)} (f : Pf p K) : z1b.f p l = some (if tp p K l = true then (pp p K l, true) else ([], false)) ∧ z1i.f p l = some (if tp p K l = true then (pp p K l, true) else ([], false)) ∧ (tp p K l = true → (pp p K l).length ≤ 10000) := by
 unfold z1b.f z1i.f
 obtain ⟨a, b⟩ := q_can p l hp hq hl
 rw [a, b, h]
 simp only [Option.bind_some, Bool.not_true, Bool.false_eq_true, if_false]
 obtain ⟨hK, f1, f2, hset, hne, q, q4⟩ := f
 have h3 := (can_facts h).2.2.1
 obtain ⟨_, tb, e1, e2, e3⟩ := p_match (l := l) (by omega) (fun u hu => (hset u hu).1) (by omega) q4
 obtain ⟨ts, g1, g2, g3⟩ := p_table (l := l) (by omega) hset (by omega) hK
 obtain ⟨s, S, P⟩ := prs_ok (by omega) (by omega) hK hne e3 g3 (p.length - 1) (by omega)
 have P := P (p.length - 1 + 2) (by omega)
 have hw : IntKind.i64.wrap ((p.length : Int) - 1) = ((p.length - 1 : Nat) : Int) := by rw [yv (by omega) (by omega)]; omega
 obtain ⟨fl, x1, x2⟩ := g3 (p.length - 1) (by omega)
 have x3 := x2.2 0 l.length (by omega) (by omega)
 rw [Nat.zero_mul, Nat.zero_add] at x3
 have y1 := e3.has (show p.length - 1 < p.length by omega) (Nat.zero_le l.length) (Nat.le_refl _)
 rw [show ((0 : Nat) : Int) = 0 from rfl] at y1
 unfold z1g.f
 rw [e1, g1]
 simp only [Option.bind_some]
 rw [hw, y1, rd?_get' x1]
 simp only [Option.bind_some]
 rw [rd?_get' x3]
 simp only [Option.bind_some]
 have z0 := S.1
 have z1 := S.2.1
 have hacc : acc (getT (trs p K) ((p.length - 1 : Nat) : Int)) (seg l 0 l.length) = tp p K l := rfl
 have htp : tA p K l ((p.length - 1 : Nat) : Int) 0 l.length = tp p K l := rfl
 rw [hacc, htp]
 cases hA : tp p K l with
 | false => exact ⟨rfl, rfl, fun h => by cases h⟩
 | true =>
  simp only [Bool.not_true, Bool.false_eq_true, if_false, if_true]
  have b1 : (((p.length - 1 : Nat) : Int) - s + 1).toNat * max 1 (l.length - 0) ≤ 40 * 40 := Nat.mul_le_mul (by omega) (by omega)
  have i1 := P.impl 0 l.length [] (Nat.zero_le _) (Nat.le_refl _) hA (by rw [List.length_nil]; omega)
  have i2 := P.spec 0 l.length (Nat.zero_le _) (Nat.le_refl _) hA
  have i3 := P.len 0 l.length (Nat.zero_le _) (Nat.le_refl _) hA
  unfold z1a.f z1h.f
  rw [show (((p.length - 1 : Nat) : Int)).toNat = p.length - 1 by omega]
  rw [show ((0 : Nat) : Int) = 0 from rfl] at i1 i2
  rw [i1, i2]
  exact ⟨rfl, rfl, fun _ => by unfold pp; omega⟩
theorem y_Matches (h : can p l = true) {K : List (List Int)} (f : Pf p K) : z1q.f p l = some (tp p K l, true) := by
 unfold z1q.f
 obtain ⟨c1, _, c3, c4⟩ := can_facts h
 rw [p_implRe p hp hq, c1, can_runes l hl, c4, decide_eq_true c3]
 simp only [Option.bind_some, Bool.not_true, Bool.false_eq_true, if_false, Bool.and_self]
 obtain ⟨hK, f1, f2, hset, hne, q, q4⟩ := f
 obtain ⟨_, tb, e1, e2, e3⟩ := p_match (l := l) (by omega) (fun u hu => (hset u hu).1) (by omega) q4
 have y1 := e3.has (show p.length - 1 < p.length by omega) (Nat.zero_le l.length) (Nat.le_refl _)
 rw [show ((0 : Nat) : Int) = 0 from rfl] at y1
 have hw : IntKind.i64.wrap ((p.length : Int) - 1) = ((p.length - 1 : Nat) : Int) := by rw [yv (by omega) (by omega)]; omega
 rw [e1]
 simp only [Option.bind_some]
 rw [hw, y1]
 rfl
theorem y_Check (h : can p l = true) {K : List (List Int)} (f : Pf p K) {s : List Sp} (hs : s.length ≤ 200) : ∃ b, z1v.f p l s = some (b, true) ∧ z24.f p l s = some (b, true) ∧ (b = true ↔ chk p K l (p.length - 1 + 2) s (p.length - 1) 0 = some ([], l.length)) := by
 unfold z1v.f z24.f
 obtain ⟨a, b⟩ := q_can p l hp hq hl
 rw [a, b, h]
 have h6 : decide ((s.length : Int) > 200) = false := by simp; omega
 simp only [Option.bind_some, Bool.not_true, Bool.false_eq_true, if_false, h6]
 obtain ⟨hK, f1, f2, hset, hne, q, q4⟩ := f
 have h3 := (can_facts h).2.2.1
 have hw : IntKind.i64.wrap ((p.length : Int) - 1) = ((p.length - 1 : Nat) : Int) := by rw [yv (by omega) (by omega)]; omega
 have A := p_chkImpl (tb := []) (l := l) (by omega) hset (by omega) hK hne (p.length - 1 + 2) (p.length - 1) 0 l.length s (by omega) (by omega) (Nat.zero_le _) (Nat.le_refl _)
 have B := p_chkSpec (l := l) (by omega) hset (by omega) hK hne (p.length - 1 + 2) (p.length - 1) 0 s (by omega) (by omega) (Nat.zero_le _)
 rw [show ((0 : Nat) : Int) = 0 from rfl] at A B
 rw [p_parts p (by omega), q4]
 simp only [Option.bind_some]
 unfold z1u.f z23.f
 rw [hw, show (((p.length - 1 : Nat) : Int)).toNat = p.length - 1 by omega]
 unfold ImplAns at A
 unfold SpecAns at B
 cases hc : chk p K l (p.length - 1 + 2) s (p.length - 1) 0 with
 | none =>
  rw [hc] at A B
  obtain ⟨r', A⟩ := A
  obtain ⟨r2, e2, B⟩ := B
  rw [A, B]
  exact ⟨false, rfl, rfl, by simp⟩
 | some o =>
  obtain ⟨r, e⟩ := o
  rw [hc] at A B
  have B : z23.r (p.length - 1 + 2) p l s ((p.length - 1 : Nat) : Int) 0 = some (r, (e : Int), true) := B
  rw [B]
  simp only [Option.bind_some, if_true]
  by_cases h5 : e = l.length
  ·subst h5
   simp only [if_true] at A
   rw [A]
   cases r with
   | nil => exact ⟨true, by simp, by simp, by simp⟩
   | cons u r => exact ⟨false, by simp; omega, by simp; omega, by simp⟩
  ·simp only [h5, if_false] at A
   obtain ⟨r', A⟩ := A
   have : ((e : Int) == (l.length : Int)) = false := by simp; omega
   rw [A, this]
   refine ⟨false, rfl, rfl, ?_⟩
   simp [h5]
end
theorem y_Root {p : List Nd} (hp : p.length ≤ big) (hq : ∀ u ∈ p, u.2.length ≤ big) (h1 : okRe p = true) (h2 : p.all okPl = true) (hl : 1 ≤ p.length) (h40 : p.length ≤ 40) {s : List Sp} (hs : s.length ≤ 200) : z21.f p s ((p.length - 1 : Nat) : Int) = some (s.filter fun u => u.1 == ((p.length - 1 : Nat) : Int), true) := by
 unfold z21.f
 rw [p_implRe p hp hq, p_implPlain p hp, h1, h2]
 simp only [Option.bind_some, Bool.not_true, Bool.false_eq_true, if_false]
 rw [if_neg (by simp; omega)]
 unfold z1w.f
 rw [yv (n := (p.length : Int) - 1) (by omega) (by omega)]
 simp only [p_inRange, Option.bind_some]
 have h4 : (decide (0 ≤ ((p.length - 1 : Nat) : Int)) && decide (((p.length - 1 : Nat) : Int) ≤ (p.length : Int) - 1)) = true := by simp; omega
 rw [h4]
 simp only [Option.bind_some, Bool.not_true, Bool.false_eq_true, if_false]
 unfold z1x.f
 rw [app?_at (by simp; omega)]
 simp only [Option.bind_some, List.nil_append]
 rw [p_delete s _ (by omega)]
 rfl
theorem p_sameSpans (a : List Sp) (ha : a.length ≤ big) : z1p.f a a = some true := by
 unfold z1p.f
 rw [if_neg (by simp)]
 unfold big at ha
 have h : Tt (z1p.l1 a a (((a.length : Int) - 0).toNat + 2) 0) fun o => o = .go () := by
  refine t_iter a.length (fun _ (_ : Unit) => True) _ (fun k i _ => z1p.l1 a a k (i : Int)) (fun k i _ hi _ ih => ?_) (fun k _ _ => ?_) _ 0 () (by omega) (by omega) trivial
  ·show Tt (z1p.l1 a a (k + 1) (i : Int)) _
   rw [z1p.l1, if_pos (by simp; omega), rd?_at hi]
   simp only [Option.bind_some, beq_self_eq_true, Bool.and_self, Bool.not_true, Bool.false_eq_true, if_false]
   rw [y03 i (by omega)]
   exact ih () trivial
  ·show Tt (z1p.l1 a a (k + 1) (a.length : Int)) _
   rw [z1p.l1, if_neg (by simp)]
   exact .one rfl
 obtain ⟨o, e, rfl⟩ := h
 rw [e]
 rfl
/-- What the one side and the other tell of a pattern's parses. -/
theorem b_Parse {p : List Nd} {l : List Int} (hp : p.length ≤ big) (hq : ∀ u ∈ p, u.2.length ≤ big) (hl : l.length ≤ big) : ∃ r : List Sp × Bool, z1b.f p l = some r ∧ z1i.f p l = some r ∧ r.1.length ≤ 10000 := by
 cases h : can p l with
 | false => obtain ⟨a, b⟩ := n_Parse hp hq hl h; exact ⟨_, a, b, by simp⟩
 | true =>
  obtain ⟨K, f⟩ := can_Pf h
  obtain ⟨a, b, c⟩ := y_Parse hp hq hl h f
  refine ⟨_, a, b, ?_⟩
  split
  ·exact c (by assumption)
  ·simp
theorem smRe.bd {n : Nat} {p : List Nd} (h : smRe n p) (hn : n ≤ 1000) : p.length ≤ big ∧ ∀ u ∈ p, u.2.length ≤ big := ⟨by have := h.1; unfold big; omega, fun u hu => by have := h.2 u hu; unfold big; omega⟩
theorem t_DrawCheck {code : List Int} (hc : allW (inK .u8) code) : Tt (z22.f code) fun r => smRe 31 r.1 ∧ r.2.1.length ≤ 60 ∧ r.2.2.length ≤ 10001 := by
 unfold z22.f
 refine (t_matched hc (by decide) (by decide)).bind fun u hu => ?_
 obtain ⟨b1, b2⟩ := hu.1.bd (by omega)
 obtain ⟨s, _, s2, s3⟩ := b_Parse b1 b2 (l := u.2.1) (by have := hu.2.1; unfold big; omega)
 rw [s2]
 simp only [Option.bind_some]
 refine Tt.bind (Φ := fun o : List Sp => o.length ≤ 10001) ?_ fun o ho => .one ⟨hu.1, hu.2.1, ho⟩
 refine Tt.bind (Φ := fun o : Bool × Int × Int => (o.1 = true → 1 ≤ s.1.length) ∧ 0 ≤ o.2.1 ∧ o.2.1 ≤ 3000) (Tt.ite (fun h => ?_) fun _ => .one ⟨fun h => (by cases h), by dsimp only; omega, by dsimp only; omega⟩) fun o ho => ?_
 rotate_left
 ·obtain ⟨x, a2, s2⟩ := o
  dsimp only at ho ⊢
  refine Tt.ite (fun h => ?_) fun _ => .one (by omega)
  have h1 := ho.1 h
  refine (t_pick hc (by omega) (by omega)).bind fun v hv => (t_pick hc (by omega) (by omega)).bind fun w hw => ?_
  have hv1 := hv.2.1 (by omega)
  refine Tt.ite (fun _ => (Tt.rd (by omega) (by omega)).bind fun a ha => (t_pick hc (by omega) (by omega)).bind fun z hz => (Tt.rd (by omega) (by omega)).bind fun b hb => (Tt.st (by omega) (by omega)).bind fun c hcc => .one (by omega)) fun _ => ?_
  refine Tt.ite (fun _ => (t_pick hc (by omega) (by omega)).bind fun z hz => (Tt.rd (by omega) (by omega)).bind fun b hb => (Tt.st (by omega) (by omega)).bind fun c hcc => .one (by omega)) fun _ => ?_
  refine Tt.ite (fun _ => ?_) fun _ => (Tt.rd (by omega) (by omega)).bind fun b hb => (Tt.app (by simp; omega)).bind fun c hcc => .one (by subst hcc; simp; omega)
  obtain ⟨q, hq⟩ := Int.eq_ofNat_of_zero_le hv.1
  rw [hq, cutT (by omega)]
  exact .one (by simp; omega)
 ·have h : (s.1.length : Int) > 0 := of_decide_eq_true h
  exact (t_one hc (by omega) (by omega)).bind fun v hv => .one ⟨fun _ => by omega, by dsimp only; omega, by dsimp only; omega⟩
theorem t_DrawSpans {code : List Int} (hc : allW (inK .u8) code) : Tt (z25.f code) fun r => smRe 31 r.1 ∧ r.2.1.length ≤ 10001 := by
 unfold z25.f
 refine (t_matched hc (by decide) (by decide)).bind fun u hu => ?_
 obtain ⟨b1, b2⟩ := hu.1.bd (by omega)
 obtain ⟨s, _, s2, s3⟩ := b_Parse b1 b2 (l := u.2.1) (by have := hu.2.1; unfold big; omega)
 rw [s2]
 simp only [Option.bind_some]
 exact (t_pick hc (by omega) (by omega)).bind fun v hv => (t_pick hc (by omega) (by omega)).bind fun w hw => (Tt.quo (by decide)).bind fun _ _ => .one ⟨hu.1, by dsimp only; omega⟩
theorem law_Parsed (p q : List Int) (hp : allW (inK .u8) p) (hq : allW (inK .u8) q) : z27.f p q = some true := by
 suffices h : Tt (z27.f p q) fun r => r = true by
  obtain ⟨r, e, rfl⟩ := h
  exact e
 unfold z27.f
 rw [p_big p q hp.1]
 refine (Tt.one (Φ := fun b => b = decide ((p.length : Int) + q.length > 1048576)) rfl).bind fun b hb => ?_
 refine Tt.ite (fun _ => .one rfl) (fun _ => ?_)
 unfold z0f.f
 refine Tt.bind (Φ := fun u : List Nd × List Int => smRe 31 u.1 ∧ u.2.length ≤ 60) ((t_matched hp (by decide) (by decide)).bind fun u hu => .one ⟨hu.1, hu.2.1⟩) fun u hu => ?_
 obtain ⟨a, l⟩ := u
 dsimp only at hu ⊢
 obtain ⟨b1, b2⟩ := hu.1.bd (by omega)
 have b3 : l.length ≤ big := by have := hu.2; unfold big; omega
 have rest : Tt ((z22.f q).bind fun u164 => (z1v.f u164.1 u164.2.1 u164.2.2).bind fun u169 => (z24.f u164.1 u164.2.1 u164.2.2).bind fun u171 => (if (u169.2 != u171.2) = true then (some true) else (some (u169.1 != u171.1))).bind fun (o : Bool) => match o with | x183 => (if x183 = true then (some false) else (((if u169.2 = true then (some u169.1) else (some false)).bind fun (o : Bool) => match o with | x217 => (if x217 = true then ((z1l.f u164.1 u164.2.1).bind fun u222 => (z1b.f u164.1 u164.2.1).bind fun u224 => (if (!u222.2) = true then (some true) else (if (u222.1 == 0) = true then (some true) else (if (!u224.2) = true then (some true) else (if (u222.1 == 1) = true then ((z1p.f u224.1 u164.2.2).bind fun u237 => some (!u237)) else (some false))))).bind fun (o : Bool) => match o with | x232 => (if x232 = true then ((some false).bind fun z => some (Lo.ret z)) else (some (Lo.go ())))) else (some (Lo.go ())))).bind fun (o : Lo Unit Bool) => match o with | .go () => ((z25.f q).bind fun u243 => (z21.f u243.1 u243.2.1 u243.2.2).bind fun u247 => (z26.f u243.1 u243.2.1 u243.2.2).bind fun u250 => if (u247.2 == u250.2) = true then ((z1p.f u247.1 u250.1).bind fun u254 => some u254) else (some false)) | .ret z => some z))) fun r => r = true := by
  refine (t_DrawCheck hq).bind fun v hv => ?_
  obtain ⟨c, w, s⟩ := v
  dsimp only at hv ⊢
  obtain ⟨c1, c2⟩ := hv.1.bd (by omega)
  have c3 : w.length ≤ big := by have := hv.2.1; unfold big; omega
  have last : Tt ((z25.f q).bind fun u243 => (z21.f u243.1 u243.2.1 u243.2.2).bind fun u247 => (z26.f u243.1 u243.2.1 u243.2.2).bind fun u250 => if (u247.2 == u250.2) = true then ((z1p.f u247.1 u250.1).bind fun u254 => some u254) else (some false)) fun r => r = true := by
   refine (t_DrawSpans hq).bind fun v hv => ?_
   obtain ⟨d1, d2⟩ := hv.1.bd (by omega)
   obtain ⟨r, e1, e2, e3⟩ := p_SpansOf v.1 v.2.1 v.2.2 d1 d2 (by have := hv.2; unfold big; omega)
   rw [e1, e2]
   simp only [Option.bind_some, beq_self_eq_true, if_true]
   rw [p_sameSpans r.1 (by unfold big; omega)]
   exact .one rfl
  cases hcs : (can c w && decide (s.length ≤ 200)) with
  | false =>
   obtain ⟨e1, e2⟩ := n_Check c1 c2 c3 hcs
   rw [e1, e2]
   exact last
  | true =>
   rw [Bool.and_eq_true, decide_eq_true_eq] at hcs
   obtain ⟨K, f⟩ := can_Pf hcs.1
   obtain ⟨b, e1, e2, e3⟩ := y_Check c1 c2 c3 hcs.1 f hcs.2
   rw [e1, e2]
   simp only [Option.bind_some, bne_self_eq_false, Bool.false_eq_true, if_false, if_true]
   cases b with
   | false => exact last
   | true =>
    obtain ⟨g1, g2⟩ := chk_only f.kids f.plain (c.length - 1) (by have := f.one; omega) (c.length - 1 + 2) 0 w.length s [] (by omega) (e3.1 rfl)
    obtain ⟨i1, _⟩ := y_Count c1 c2 c3 hcs.1 f
    obtain ⟨j1, _, _⟩ := y_Parse c1 c2 c3 hcs.1 f
    have ht : tp c K w = true := g1
    have hcp : 1 ≤ cp c K w := (acc_cnt f.kids f.plain (c.length - 1) (by have := f.one; omega) 0 w.length (Nat.zero_le _) (Nat.le_refl _)).1 g1
    rw [i1, j1, ht]
    simp only [Option.bind_some, if_true, Bool.not_true, Bool.false_eq_true, if_false]
    rw [if_neg (by simp; omega)]
    refine Tt.bind (Φ := fun o => o = Lo.go ()) ?_ fun o ho => by subst ho; exact last
    by_cases h1 : cp c K w = 1
    ·have := g2 h1
     rw [List.append_nil] at this
     rw [if_pos (by simpa using h1), show pp c K w = s from this.symm, p_sameSpans s (by unfold big; omega)]
     exact .one rfl
    ·rw [if_neg (by simpa using h1)]
     exact .one rfl
 cases h : can a l with
 | false =>
  obtain ⟨e1, e2⟩ := n_Parse b1 b2 b3 h
  obtain ⟨e3, e4⟩ := n_Count b1 b2 b3 h
  rw [e1, e2, e3, e4]
  simp only [Option.bind_some, bne_self_eq_false, Bool.false_eq_true, if_false]
  rw [p_sameSpans [] (by simp)]
  exact rest
 | true =>
  obtain ⟨K, f⟩ := can_Pf h
  obtain ⟨e1, e2, e5⟩ := y_Parse b1 b2 b3 h f
  obtain ⟨e3, e4⟩ := y_Count b1 b2 b3 h f
  have hone := f.one
  have hac : tp a K l = true ↔ 1 ≤ cp a K l := acc_cnt f.kids f.plain (a.length - 1) (by omega) 0 l.length (Nat.zero_le _) (Nat.le_refl _)
  rw [e1, e2, e3, e4]
  simp only [Option.bind_some, bne_self_eq_false, Bool.false_eq_true, if_false, if_true]
  rw [p_sameSpans _ (by
   split
   ·have := e5 (by assumption)
    show (pp a K l).length ≤ _
    unfold big; omega
   ·simp)]
  simp only [Option.bind_some, Bool.not_true, Bool.false_eq_true, if_false]
  rw [y_Matches b1 b2 b3 h f]
  simp only [Option.bind_some, Bool.not_true, Bool.false_eq_true, if_false]
  cases ht : tp a K l with
  | false =>
   have hz : ¬ 1 ≤ cp a K l := fun hc => by rw [hac.2 hc] at ht; cases ht
   have hd : decide (cp a K l > 0) = false := by simp; omega
   simp only [Bool.false_eq_true, if_false, bne_self_eq_false, hd, Option.bind_some]
   exact rest
  | true =>
   have hz := hac.1 ht
   have hd : decide (cp a K l > 0) = true := by simp; omega
   simp only [if_true, bne_self_eq_false, Bool.false_eq_true, if_false, hd, Option.bind_some]
   have e5 := e5 ht
   by_cases hs : (pp a K l).length ≤ 200
   ·obtain ⟨b, k1, _, k2⟩ := y_Check b1 b2 b3 h f hs
    have hb : b = true := k2.2 (by
     have := chk_prs (l := l) f.kids f.plain (a.length - 1) (by omega) (a.length - 1 + 2) 0 l.length [] (by omega) (Nat.zero_le _) (Nat.le_refl _) ht
     rw [List.append_nil] at this
     exact this)
    rw [k1, hb]
    obtain ⟨o1, o2, _, _⟩ := can_facts h
    have hroot := prs_root (l := l) f.kids f.plain (show a.length - 1 < a.length by omega) (a.length - 1 + 1) 0 l.length
    have hr := y_Root b1 b2 o1 o2 hone f.few hs
    rw [show (pp a K l).filter (fun u => u.1 == ((a.length - 1 : Nat) : Int)) = _ from hroot] at hr
    have hw : IntKind.i64.wrap ((a.length : Int) - 1) = ((a.length - 1 : Nat) : Int) := by have := f.few; rw [yv (by omega) (by omega)]; omega
    have hl : decide (((pp a K l).length : Int) ≤ 200) = true := by simp; omega
    rw [hw, hr]
    simp only [Option.bind_some, hl, if_true, Bool.not_true, Bool.false_eq_true, if_false]
    obtain ⟨tl, htl⟩ := prs_head (p := a) (K := K) (l := l) (n := a.length - 1 + 2) (k := a.length - 1) (f := 0) (t := l.length) (by omega)
    rw [show pp a K l = _ from htl]
    rw [show rd? ([(((a.length - 1 : Nat) : Int), ((0 : Nat) : Int), (l.length : Int))] : List Sp) 0 = some _ from rfl, show rd? ((((a.length - 1 : Nat) : Int), ((0 : Nat) : Int), (l.length : Int)) :: tl : List Sp) 0 = some _ from rfl]
    simp only [Option.bind_some, beq_self_eq_true, Bool.and_self, Bool.not_true, List.length_singleton]
    exact rest
   ·have k1 := (n_Check b1 b2 b3 (s := pp a K l) (by rw [h, Bool.true_and, decide_eq_false_iff_not]; exact hs)).1
    have hl : decide (((pp a K l).length : Int) ≤ 200) = false := by simp; omega
    have hw : IntKind.i64.wrap ((a.length : Int) - 1) = ((a.length - 1 : Nat) : Int) := by have := f.few; rw [yv (by omega) (by omega)]; omega
    obtain ⟨r, g1, _, _⟩ := p_SpansOf a (pp a K l) ((a.length - 1 : Nat) : Int) b1 b2 (by unfold big; omega)
    rw [k1, hw, g1]
    simp only [Option.bind_some, hl, Bool.false_eq_true, if_false]
    exact rest
end Go.Proofs.YtbeolahmnoeicaaGreat
