/- Plain laws of the printed functions. Conditions as each lemma says. -/
import Derived.Test.YtbeolahmnoeicaaGreatPLReplacedInq0
set_option linter.unusedVariables false
set_option linter.unusedSimpArgs false
namespace Go.Proofs.YtbeolahmnoeicaaGreat
open Go Go.Proofs.GL
theorem t_DfaOf {n : N6} (h : Nf n) : Tt (z1m.f n.1 n.2.1 n.2.2.1 n.2.2.2.1 n.2.2.2.2) fun d => d.2.2.2 = true → Df (d.1, d.2.1, d.2.2.1) := by
 unfold z1m.f
 refine (t_CutsOf h).bind fun u hu => Tt.ite (fun _ => .one fun h => by cases h) fun _ => ?_
 obtain ⟨cu, ok⟩ := u
 dsimp only at hu ⊢
 have hm := h.many
 have hfi := h.first.len
 have hla := h.last.len
 have key : ∀ (f k : Nat) (L : List (List Int)) (nx : List (List Int)) (fi : List Bool), 61 - k < f → Dl n cu L k nx fi → Tt (z1m.l1 n.1 n.2.1 n.2.2.1 n.2.2.2.1 n.2.2.2.2 (cu, ok) f L (k : Int) nx fi) fun o => match o with | .go (a, b) => Df (cu, a, b) | .ret z => z.2.2.2 = false := by
  intro f
  induction f with
  | zero => intro k _ _ _ h; omega
  | succ f ih =>
   intro k L nx fi hf g
   obtain ⟨g1, g2, g3, g4, g5, g6, g7⟩ := g
   rw [z1m.l1]
   refine Tt.ite (fun c => ?_) fun c => .one ?_
   ·have c : k < L.length := by have := of_decide_eq_true c; omega
    refine Tt.bind (Φ := fun o => match o with | .go (a, b, c) => Dl n cu a (k + 1) b c | .ret z => match z with | .go _ => False | .ret z => z.2.2.2 = false) ?_ fun o ho => ?_
    ·refine Tt.bind (Φ := fun o : Bool × List Int => Sm n.2.1.length o.2) (Tt.ite (fun d => ?_) fun _ => .one h.first) fun o ho => ?_
     ·have d : 1 ≤ k := by have := of_decide_eq_true d; omega
      rw [rd?_at c]
      simp only [Option.bind_some]
      have hs := g1 k c d
      have hsl := hs.len
      exact (t_behind h hs).bind fun b hb => (t_dfa2 _ b _ (by omega) (by omega)).mono fun r hr => by rw [hr]; exact hb
     ·obtain ⟨fb, beh⟩ := o
      dsimp only at ho ⊢
      refine (Tt.app (by simp; omega)).bind fun cs hcs => ?_
      have hcl : cs.length = cu.length + 1 := by rw [hcs]; simp
      refine (t_dfa3 h ho cs (by omega) L g1 g2 g3).bind fun o ho => ?_
      obtain ⟨L', row⟩ := o
      obtain ⟨o1, o2, o3, o4⟩ := ho
      dsimp only at o1 o2 o3 o4 ⊢
      refine (Tt.app (by simp; omega)).bind fun nx' hn => (Tt.app (by simp; omega)).bind fun fi' hfi' => Tt.ite (fun _ => .one rfl) fun e => .one ?_
      have e : L'.length ≤ 60 := by simp at e; omega
      subst hn hfi'
      refine ⟨o1, by omega, e, by omega, by simp; omega, by simp; omega, fun r hr => ?_⟩
      rcases List.mem_append.1 hr with hr | hr
      ·obtain ⟨r1, r2⟩ := g7 r hr
       exact ⟨r1, fun x hx => ⟨(r2 x hx).1, by have := (r2 x hx).2; omega⟩⟩
      ·rw [List.mem_singleton.1 hr]; exact ⟨by omega, o4⟩
    ·cases o with
     | go x =>
      obtain ⟨a, b, c'⟩ := x
      dsimp only at ho ⊢
      rw [yw k (by omega)]
      exact ih (k + 1) a b c' (by omega) ho
     | ret z =>
      cases z with
      | go x => exact ho.elim
      | ret z => exact .one ho
   ·have c : k = L.length := by simp at c; omega
    exact ⟨by dsimp only; omega, by dsimp only; omega, by dsimp only; omega, hu, fun r hr => by
     obtain ⟨r1, r2⟩ := g7 r hr
     exact ⟨r1, fun x hx => ⟨(r2 x hx).1, by have := (r2 x hx).2; dsimp only; omega⟩⟩⟩
 refine Tt.bind (key 70 0 [[-1]] [] [] (by omega) ⟨fun j hj h1 => by simp at hj; omega, by simp, by simp, by simp, rfl, rfl, fun r hr => by cases hr⟩) fun o ho => ?_
 cases o with
 | go x => exact .one fun _ => ho
 | ret z => exact .one fun h => by rw [show z.2.2.2 = false from ho] at h; cases h
theorem t_entry {d : D6} (h : Df d) (r : Int) : Tt (z16.f d.1 d.2.1 d.2.2 r) fun o => 0 ≤ o ∧ o ≤ d.1.length := by
 have hc := h.cuts
 unfold z16.f
 refine Tt.bind (Φ := fun o : Int => 0 ≤ o ∧ o ≤ d.1.length) ?_ fun o ho => .one ho
 refine t_look d.1.length (fun k i => z16.l1 d.1 r k i) (by omega) (fun k i hi ih => ?_) (fun k => ?_) _ (by omega)
 ·show Tt (z16.l1 d.1 r (k + 1) (i : Int)) _
  rw [z16.l1, if_pos (by simp; omega), rd?_at hi]
  simp only [Option.bind_some]
  exact Tt.ite (fun _ => ih) fun _ => .one ⟨by omega, by omega⟩
 ·show Tt (z16.l1 d.1 r (k + 1) (d.1.length : Int)) _
  rw [z16.l1, if_neg (by simp)]
  simp only [Option.bind_some, Bool.false_eq_true, if_false]
  exact .one ⟨by omega, by omega⟩
theorem t_runDfa {d : D6} (h : Df d) (l : List Int) (hl : l.length ≤ 1000000) : Tt (z17.f d.1 d.2.1 d.2.2 l) fun _ => True := by
 have h1 := h.some
 have h2 := h.fin
 unfold z17.f
 refine Tt.bind (Φ := fun o : Int => 0 ≤ o ∧ o < d.2.1.length) ?_ fun o ho => (Tt.rd ho.1 (by omega)).bind fun _ _ => .one trivial
 refine t_iter l.length (fun i (o : Int) => 0 ≤ o ∧ o < d.2.1.length) _ (fun k i o => z17.l1 d.1 d.2.1 d.2.2 l k o (i : Int)) (fun k i st hi g ih => ?_) (fun k st g => ?_) _ 0 0 (by omega) (by omega) ⟨by omega, by omega⟩
 ·show Tt (z17.l1 d.1 d.2.1 d.2.2 l (k + 1) st (i : Int)) _
  rw [z17.l1, if_pos (by simp; omega), rd?_at hi]
  simp only [Option.bind_some]
  refine (Tt.rd g.1 g.2).bind fun r hr => (t_entry h _).bind fun e he => ?_
  obtain ⟨r1, r2⟩ := h.rows r hr
  refine (Tt.rd he.1 (by omega)).bind fun x hx => ?_
  rw [yw i (by omega)]
  exact ih x (r2 x hx)
 ·show Tt (z17.l1 d.1 d.2.1 d.2.2 l (k + 1) st (l.length : Int)) _
  rw [z17.l1, if_neg (by simp)]
  exact .one g
theorem t_all (l : List Int) (a b : Int) (hl : l.length ≤ 1000000) : Tt (ze.f l a b) fun _ => True := by
 unfold ze.f
 refine Tt.bind (Φ := fun _ => True) ?_ fun o _ => by cases o <;> exact .one trivial
 refine t_look l.length (fun k i => ze.l1 l a b k i) (by omega) (fun k i hi ih => ?_) (fun k => ?_) _ (by omega)
 ·show Tt (ze.l1 l a b (k + 1) (i : Int)) _
  rw [ze.l1, if_pos (by simp; omega), rd?_at hi]
  simp only [Option.bind_some]
  exact (t_in _ _ _).bind fun _ _ => Tt.ite (fun _ => .one trivial) fun _ => ih
 ·show Tt (ze.l1 l a b (k + 1) (l.length : Int)) _
  rw [ze.l1, if_neg (by simp)]
  exact .one trivial
theorem t_GoodDfa {d : D6} (h : Df d) : Tt (z1o.f d.1 d.2.1 d.2.2) fun _ => True := by
 obtain ⟨cu, nx, fi⟩ := d
 obtain ⟨h1, h2, h3, h4, h5⟩ := h
 dsimp only at *
 unfold z1o.f
 refine Tt.bind (Φ := fun _ => True) ((t_in _ _ _).bind fun _ _ => Tt.ite (fun _ => .one trivial) fun _ => Tt.ite (fun _ => .one trivial) fun _ => Tt.ite (fun _ => .one trivial) fun _ => (t_rising _ _ _ (by omega)).bind fun _ _ => .one trivial) fun o _ => Tt.ite (fun _ => .one trivial) fun _ => ?_
 refine Tt.bind (Φ := fun _ => True) ?_ fun o _ => by cases o <;> exact .one trivial
 refine t_look nx.length (fun k i => z1o.l1 cu nx k i) (by omega) (fun k i hi ih => ?_) (fun k => ?_) _ (by omega)
 ·show Tt (z1o.l1 cu nx (k + 1) (i : Int)) _
  rw [z1o.l1, if_pos (by simp; omega), rd?_at hi]
  simp only [Option.bind_some]
  have := (h5 _ (List.getElem_mem hi)).1
  exact Tt.bind (Φ := fun _ => True) (Tt.ite (fun _ => .one trivial) fun _ => (t_all _ _ _ (by omega)).bind fun _ _ => .one trivial) fun o _ => Tt.ite (fun _ => .one trivial) fun _ => ih
 ·show Tt (z1o.l1 cu nx (k + 1) (nx.length : Int)) _
  rw [z1o.l1, if_neg (by simp)]
  exact .one trivial
/-- Numbers below a bound, none twice: at most so many. -/
theorem few : ∀ (N : Nat) (l : List Int), l.Nodup → (∀ x ∈ l, 0 ≤ x ∧ x < N) → l.length ≤ N
 | 0, l, _, h => by
  cases l with
  | nil => simp
  | cons x l => have := h x (List.mem_cons_self ..); omega
 | N + 1, l, hn, h => by
  have := few N (l.erase (N : Int)) (hn.erase _) fun x hx => by
   have h1 := h x (List.mem_of_mem_erase hx)
   have h2 : x ≠ (N : Int) := fun e => by
    subst e
    exact (List.Nodup.not_mem_erase hn) hx
   omega
  rw [List.length_erase] at this
  split at this <;> omega
structure Sl (d : D6) (W : List (List Int)) (st : List Int) : Prop where
 len : W.length = st.length
 nod : st.Nodup
 inn : ∀ x ∈ st, 0 ≤ x ∧ x < d.2.1.length
 small : ∀ j (h : j < W.length), W[j].length ≤ j
theorem Sl.many {d : D6} {W : List (List Int)} {st : List Int} (h : Sl d W st) : st.length ≤ d.2.1.length := few _ _ h.nod h.inn
theorem Sl.add {d : D6} {W : List (List Int)} {st : List Int} (h : Sl d W st) {w : List Int} {x : Int} (h0 : 0 ≤ x) (h1 : x < d.2.1.length) (hx : x ∉ st) (hw : w.length ≤ W.length) : Sl d (W ++ [w]) (st ++ [x]) := by
 refine ⟨by simp [h.len], ?_, fun y hy => ?_, fun j hj => ?_⟩
 ·rw [List.nodup_append]
  refine ⟨h.nod, by simp, fun a ha b hb => ?_⟩
  rw [List.mem_singleton.1 hb]
  exact fun e => hx (e ▸ ha)
 ·rcases List.mem_append.1 hy with hy | hy
  ·exact h.inn y hy
  ·rw [List.mem_singleton.1 hy]; exact ⟨h0, h1⟩
 ·by_cases e : j < W.length
  ·rw [List.getElem_append_left e]; exact h.small j e
  ·rw [List.getElem_append_right (by omega)]
   simp only [List.length_append, List.length_singleton] at hj
   have : j - W.length = 0 := by omega
   simp only [this, List.getElem_cons_zero]
   omega
theorem t_short2 {d : D6} (h : Df d) (i : Nat) {row : List Int} (hr : row ∈ d.2.1) (W : List (List Int)) (st : List Int) (hi : i < st.length) (g : Sl d W st) : Tt (z1p.l2 d.1 (i : Int) row (((row.length : Int) - 0).toNat + 2) W st 0) fun o => Sl d o.1 o.2 ∧ st.length ≤ o.2.length := by
 obtain ⟨r1, r2⟩ := h.rows row hr
 have hm := h.many
 have hc := h.cuts
 refine t_iter row.length (fun _ (o : List (List Int) × List Int) => Sl d o.1 o.2 ∧ st.length ≤ o.2.length) _ (fun k j o => z1p.l2 d.1 (i : Int) row k o.1 o.2 (j : Int)) (fun k j o hj g ih => ?_) (fun k o g => ?_) _ 0 (W, st) (by omega) (by omega) ⟨g, Nat.le_refl _⟩
 ·obtain ⟨A, S⟩ := o
  obtain ⟨g1, g2⟩ := g
  dsimp only at g1 g2
  show Tt (z1p.l2 d.1 (i : Int) row (k + 1) A S (j : Int)) _
  rw [z1p.l2, if_pos (by simp; omega), rd?_at hj]
  simp only [Option.bind_some]
  have hx := r2 _ (List.getElem_mem hj)
  have hS := g1.many
  have hA := g1.len
  refine Tt.bind (Φ := fun o : List (List Int) × List Int => Sl d o.1 o.2 ∧ st.length ≤ o.2.length) ?_ fun o ho => ?_
  ·refine (t_has S _ (by omega)).bind fun b hb => Tt.ite (fun c => ?_) fun _ => .one ⟨g1, g2⟩
   have hn : row[j] ∉ S := fun hm => by
    rw [hb] at c
    simp [hm] at c
   refine Tt.bind (Φ := fun _ => True) (Tt.ite (fun e => ?_) fun _ => .one trivial) fun r _ => ?_
   ·have e : (j : Int) > 0 := of_decide_eq_true e
    exact (Tt.rd (by rw [yr (by omega) (by omega)]; omega) (by rw [yr (by omega) (by omega)]; omega)).bind fun _ _ => .one trivial
   ·refine (Tt.app (by simp; omega)).bind fun S' hS' => ?_
    have hiA : i < A.length := by omega
    have hsm := g1.small i hiA
    rw [rd?_at hiA]
    simp only [Option.bind_some]
    rw [p_own _ (by unfold big; omega)]
    simp only [Option.bind_some]
    refine (Tt.app (by simp; omega)).bind fun w hw => (Tt.app (by simp; omega)).bind fun A' hA' => .one ?_
    subst hS' hw hA'
    exact ⟨g1.add hx.1 hx.2 hn (by simp; omega), by simp; omega⟩
  ·obtain ⟨A', S'⟩ := o
   dsimp only
   rw [yw j (by omega)]
   exact ih (A', S') ho
 ·obtain ⟨A, S⟩ := o
  show Tt (z1p.l2 d.1 (i : Int) row (k + 1) A S (row.length : Int)) _
  rw [z1p.l2, if_neg (by simp)]
  exact .one g
theorem t_short {d : D6} (h : Df d) : Tt (z1p.f d.1 d.2.1 d.2.2) fun r => r.1.length ≤ 60 := by
 have hs := h.some
 have hm := h.many
 have hf := h.fin
 unfold z1p.f
 have key : ∀ (f i : Nat) (W : List (List Int)) (st : List Int), 61 - i < f → i ≤ st.length → Sl d W st → Tt (z1p.l1 d.1 d.2.1 d.2.2 f W st (i : Int)) fun o => match o with | .go _ => True | .ret z => z.1.length ≤ 60 := by
  intro f
  induction f with
  | zero => intro i _ _ h; omega
  | succ f ih =>
   intro i W st hf' hi g
   have hst := g.many
   have hW := g.len
   rw [z1p.l1]
   refine Tt.ite (fun c => ?_) fun c => .one trivial
   have c : i < st.length := by have := of_decide_eq_true c; omega
   refine Tt.bind (Φ := fun o => match o with | .go (a, b) => Sl d a b ∧ st.length ≤ b.length | .ret z => match z with | .go _ => False | .ret z => z.1.length ≤ 60) ?_ fun o ho => ?_
   ·rw [rd?_at c]
    simp only [Option.bind_some]
    have hx := g.inn _ (List.getElem_mem c)
    refine (Tt.rd hx.1 (by omega)).bind fun b _ => Tt.ite (fun _ => ?_) fun _ => ?_
    ·have hiW : i < W.length := by omega
     have hsm := g.small i hiW
     rw [rd?_at hiW]
     simp only [Option.bind_some]
     rw [p_own _ (by unfold big; omega)]
     exact .one (by show W[i].length ≤ 60; omega)
    ·refine (Tt.rd hx.1 hx.2).bind fun row hrow => (t_short2 h i hrow W st c g).bind fun o ho => ?_
     obtain ⟨a, b⟩ := o
     exact .one ho
   ·cases o with
    | go x =>
     obtain ⟨a, b⟩ := x
     dsimp only at ho ⊢
     rw [yw i (by omega)]
     exact ih (i + 1) a b (by omega) (by omega) ho.1
    | ret z =>
     cases z with
     | go x => exact ho.elim
     | ret z => exact .one ho
 refine Tt.bind (key 70 0 [[]] [0] (by omega) (by simp) ⟨rfl, by simp, fun x hx => by rw [List.mem_singleton.1 hx]; omega, fun j hj => by simp at hj; subst hj; simp⟩) fun o ho => ?_
 cases o with
 | go x => exact .one (by simp)
 | ret z => exact .one ho
theorem t_ShortIn {d : D6} (h : Df d) : Tt (z1q.f d.1 d.2.1 d.2.2) fun r => r.1.length ≤ 60 := by
 unfold z1q.f
 exact (t_GoodDfa h).bind fun _ _ => Tt.ite (fun _ => .one (by simp)) fun _ => (t_short h).bind fun r hr => .one hr
theorem t_word {code : List Int} (hc : allW (inK .u8) code) {a s : Int} (h0 : 0 ≤ a) (h1 : a ≤ 1000000) : Tt (z1n.f code a s) fun r => r.1.length ≤ 41 ∧ a ≤ r.2.1 ∧ r.2.1 ≤ a + 30 := by
 unfold z1n.f
 refine (t_pick hc h0 (by omega)).bind fun x hx => ?_
 have hx6 := hx.2.1 (by omega)
 obtain ⟨n, hn⟩ := Int.eq_ofNat_of_zero_le hx.1
 have key : ∀ (n f : Nat) (l : List Int) (a s : Int), n < f → 0 ≤ a → a ≤ 2000000 - 2 * n → l.length + n ≤ 10 → Tt (z1n.l1 code f l (n : Int) a s) fun r => r.1.length ≤ 10 ∧ a ≤ r.2.1 ∧ r.2.1 ≤ a + 2 * n := by
  intro n
  induction n with
  | zero =>
   intro f l a s hf _ _ hl
   obtain ⟨f, rfl⟩ := Nat.exists_eq_succ_of_ne_zero (show f ≠ 0 by omega)
   rw [z1n.l1, if_neg (by simp)]
   exact .one ⟨by dsimp only; omega, by dsimp only; omega, by dsimp only; omega⟩
  | succ n ih =>
   intro f l a s hf ha ha2 hl
   obtain ⟨f, rfl⟩ := Nat.exists_eq_succ_of_ne_zero (show f ≠ 0 by omega)
   rw [z1n.l1, if_pos (by simp <;> omega)]
   refine (t_among hc (by decide) ha (by omega)).bind fun x hx => (Tt.app (by simp; omega)).bind fun l' hl' => ?_
   subst hl'
   rw [yr (n := ((n + 1 : Nat) : Int) - 1) (by omega) (by omega), show ((n + 1 : Nat) : Int) - 1 = (n : Int) by omega]
   exact (ih f (l ++ [x.1]) x.2.1 x.2.2 (by omega) (by omega) (by omega) (by simp; omega)).mono fun r hr => ⟨hr.1, by omega, by omega⟩
 rw [hn]
 refine (key n _ [] x.2.1 x.2.2 (by omega) (by omega) (by omega) (by simp; omega)).bind fun o ho => ?_
 obtain ⟨l, a2, s2⟩ := o
 dsimp only at ho ⊢
 refine Tt.bind (Φ := fun r : List Int × Int × Int => r.1.length ≤ 41 ∧ a ≤ r.2.1 ∧ r.2.1 ≤ a + 30) ?_ fun o ho => .one ho
 refine (t_one hc (by omega) (by omega)).bind fun y hy => Tt.ite (fun _ => ?_) fun _ => .one ⟨by dsimp only; omega, by dsimp only; omega, by dsimp only; omega⟩
 refine (t_pick hc (by omega) (by omega)).bind fun z hz => ?_
 have hz1 := hz.2.1 (by omega)
 obtain ⟨m, hm⟩ := Int.eq_ofNat_of_zero_le hz.1
 rw [hm, yr (by omega) (by omega), show (40 : Int) + m = ((40 + m : Nat) : Int) by omega, mk?_at (by omega)]
 exact .one ⟨by simp; omega, by dsimp only; omega, by dsimp only; omega⟩
theorem t_NfaOf (p : List Nd) (hp : p.length ≤ 1000) (hq : ∀ u ∈ p, u.2.length ≤ 1000) : Tt (z1c.f p) fun n => n.2.2.2.2.2 = true → Nf (n.1, n.2.1, n.2.2.1, n.2.2.2.1, n.2.2.2.2.1) := by
 unfold z1c.f
 rw [p_specPlain p (by unfold big; omega) (fun u hu => by have := hq u hu; unfold big; omega)]
 simp only [Option.bind_some]
 cases h1 : okRe p with
 | false => exact ⟨_, rfl, fun h => by cases h⟩
 | true =>
  cases h2 : p.all okPl with
  | false => exact ⟨_, rfl, fun h => by cases h⟩
  | true =>
   simp only [Bool.and_self, Bool.not_true, Bool.false_eq_true, if_false, Option.bind_some]
   exact (t_l6Nfa h1 h2).bind fun n hn => .one fun _ => hn
theorem t_matched {code : List Int} (hc : allW (inK .u8) code) {a s : Int} (h0 : 0 ≤ a) (h1 : a ≤ 10000) : Tt (z1r.f code a s) fun r => smRe 31 r.1 ∧ r.2.1.length ≤ 60 ∧ a ≤ r.2.2.1 ∧ r.2.2.1 ≤ a + 2000 := by
 unfold z1r.f
 refine (t_pick hc h0 (by omega)).bind fun x hx => (t_one hc (by omega) (by omega)).bind fun y hy => ?_
 have hx3 := hx.2.1 (by omega)
 obtain ⟨m, hm⟩ := Int.eq_ofNat_of_zero_le hx.1
 rw [hm, yr (by omega) (by omega), show (1 : Int) + m = ((1 + m : Nat) : Int) by omega]
 have hsz : szR (1 + m) ≤ 32 := by
  have : m = 0 ∨ m = 1 ∨ m = 2 ∨ m = 3 := by omega
  rcases this with rfl | rfl | rfl | rfl <;> decide
 unfold zh.f
 refine (t_re hc _ (1 + m) (by omega) _ y.2.1 y.2.2 (by omega) (by omega) (by omega)).bind fun p hp => ?_
 have hp1 : smRe 31 p.1 := hp.1.mono (by omega)
 refine Tt.bind (Φ := fun o : Lo (Int × Int) (List Nd × List Int × Int × Int) => match o with | .go (a', _) => a ≤ a' ∧ a' ≤ a + 1900 | .ret z => smRe 31 z.1 ∧ z.2.1.length ≤ 60 ∧ a ≤ z.2.2.1 ∧ z.2.2.1 ≤ a + 2000) ?_ fun o ho => ?_
 ·refine (t_NfaOf p.1 (by have := hp1.1; omega) (fun u hu => by have := hp1.2 u hu; omega)).bind fun n hn => ?_
  refine Tt.bind (Φ := fun o : Bool × Int × Int => (o.1 = true → Nf (n.1, n.2.1, n.2.2.1, n.2.2.2.1, n.2.2.2.2.1)) ∧ a ≤ o.2.1 ∧ o.2.1 ≤ a + 1700) (Tt.ite (fun c => (t_one hc (by omega) (by omega)).bind fun z hz => .one ⟨fun _ => hn c, by dsimp only; omega, by dsimp only; omega⟩) fun _ => .one ⟨fun h => (by cases h), by dsimp only; omega, by dsimp only; omega⟩) fun o ho => ?_
  obtain ⟨b, a2, s2⟩ := o
  dsimp only at ho ⊢
  refine Tt.ite (fun c => ?_) fun _ => .one ⟨by omega, by omega⟩
  refine (t_DfaOf (ho.1 c)).bind fun d hd => Tt.ite (fun c2 => ?_) fun _ => .one ⟨by omega, by omega⟩
  have hd := hd c2
  refine (t_word hc (by omega) (by omega)).bind fun w hw => ?_
  have loop : ∀ (f : Nat) (k : Int), -1 ≤ k → k ≤ w.1.length → k + 1 < f → Tt (z1r.l1 p d w f k) fun o : Lo Unit (Lo (Int × Int) (List Nd × List Int × Int × Int)) => match o with | .go _ => True | .ret z => match z with | .go _ => False | .ret z => smRe 31 z.1 ∧ z.2.1.length ≤ 60 ∧ a ≤ z.2.2.1 ∧ z.2.2.1 ≤ a + 2000 := by
   intro f
   induction f with
   | zero => intro k h _ h2; omega
   | succ f ih =>
    intro k k0 k1 k2
    rw [z1r.l1]
    refine Tt.bind (Φ := fun b => b = true → 0 ≤ k ∧ w.1.length ≤ 20) (Tt.ite (fun c => .one fun c' => ⟨of_decide_eq_true c, by have := of_decide_eq_true c'; omega⟩) fun _ => .one fun h => by cases h) fun b hb => Tt.ite (fun c => ?_) fun _ => .one trivial
    obtain ⟨k3, k4⟩ := hb c
    obtain ⟨q, rfl⟩ := Int.eq_ofNat_of_zero_le k3
    have hcut : cut? w.1 0 (q : Int) = some (w.1.take q) := cutT (by omega)
    rw [hcut]
    simp only [Option.bind_some]
    refine (t_runDfa hd (w.1.take q) (by simp; omega)).bind fun r _ => Tt.ite (fun _ => .one ⟨hp1, by simp; omega, by dsimp only; omega, by dsimp only; omega⟩) fun _ => ?_
    rw [yr (by omega) (by omega)]
    exact ih _ (by omega) (by omega) (by omega)
  refine (loop _ _ (by omega) (Int.le_refl _) (by omega)).bind fun o ho' => ?_
  cases o with
  | go u =>
   dsimp only
   refine (t_ShortIn hd).bind fun v hv => ?_
   refine Tt.bind (Φ := fun _ => True) (Tt.ite (fun _ => ?_) fun _ => .one trivial) fun b _ => Tt.ite (fun _ => .one ⟨hp1, hv, by dsimp only; omega, by dsimp only; omega⟩) fun _ => .one ⟨by omega, by omega⟩
   rw [p_allRunes _ (by unfold big; omega)]
   exact .one trivial
  | ret z =>
   cases z with
   | go u => exact ho'.elim
   | ret z => exact .one ho'
 ·cases o with
  | go u =>
   obtain ⟨a', s'⟩ := u
   dsimp only at ho ⊢
   exact (t_word hc (by omega) (by omega)).bind fun w hw => .one ⟨hp1, by dsimp only; omega, by dsimp only; omega, by dsimp only; omega⟩
  | ret z => exact .one ho
def smallR : List Int := [97, 98, 97, 98, 99, 12354]
theorem p_small (code : List Int) (hc : allW (inK .u8) code) (a s m : Int) (h0 : 0 ≤ a) (h1 : a ≤ 100000000000) (hm0 : 0 ≤ m) (hm : m ≤ 60000) : ∃ (l : List Int) (a' s' : Int), zj.f code a s m = some (l, a', s') ∧ (l.length : Int) ≤ m ∧ (∀ x ∈ l, x ∈ smallR) ∧ a ≤ a' ∧ a' ≤ a + 2 + 2 * m := by
 unfold zj.f
 rw [yr (by omega) (by omega)]
 obtain ⟨r, a1, s1, e, r0, r1, _, _, b0, b1⟩ := p_pick code hc a s (m + 1) h0 (by omega)
 rw [e]
 simp only [Option.bind_some]
 obtain ⟨k, rfl⟩ := Int.eq_ofNat_of_zero_le r0
 have hk : (k : Int) < m + 1 := r1 (by omega)
 have key : ∀ (n f : Nat) (l : List Int) (a s : Int), n < f → 0 ≤ a → a + 2 * n ≤ 1000000000000 → (∀ x ∈ l, x ∈ smallR) → l.length + n ≤ 100000 → ∃ (l' : List Int) (a' s' : Int), zj.l1 code f l (n : Int) a s = some (l', a', s') ∧ l'.length = l.length + n ∧ (∀ x ∈ l', x ∈ smallR) ∧ a ≤ a' ∧ a' ≤ a + 2 * n := by
  intro n
  induction n with
  | zero =>
   intro f l a s hf ha ha2 hl hn
   obtain ⟨f, rfl⟩ := Nat.exists_eq_succ_of_ne_zero (show f ≠ 0 by omega)
   rw [zj.l1, if_neg (by simp)]
   exact ⟨l, a, s, rfl, by omega, hl, by omega, by omega⟩
  | succ n ih =>
   intro f l a s hf ha ha2 hl hn
   obtain ⟨f, rfl⟩ := Nat.exists_eq_succ_of_ne_zero (show f ≠ 0 by omega)
   rw [zj.l1, if_pos (by simp <;> omega)]
   obtain ⟨x, a1, s1, e, hx, c0, c1⟩ := p_among code hc a s smallR (by decide) ha (by omega)
   unfold smallR at e
   rw [e]
   simp only [Option.bind_some]
   rw [app?_at (by simp; omega)]
   simp only [Option.bind_some]
   rw [yr (by omega) (by omega), show ((n + 1 : Nat) : Int) - 1 = (n : Int) by omega]
   obtain ⟨l', a', s', e', g1, g2, g3, g4⟩ := ih f (l ++ [x]) a1 s1 (by omega) (by omega) (by omega) (fun y hy => by
    rcases List.mem_append.1 hy with hy | hy
    ·exact hl y hy
    ·rw [List.mem_singleton.1 hy]; exact hx) (by simp; omega)
   exact ⟨l', a', s', e', by rw [g1]; simp; omega, g2, by omega, by omega⟩
 obtain ⟨l, a', s', e2, g1, g2, g3, g4⟩ := key k (((k : Int) - 0).toNat + 2) [] a1 s1 (by omega) (by omega) (by omega) (by simp) (by simp; omega)
 rw [e2]
 exact ⟨l, a', s', rfl, by simp at g1; omega, g2, by omega, by omega⟩
theorem p_big (p q : List Int) (hp : p.length ≤ maxN) : z0.f p q = some (decide ((p.length : Int) + q.length > 1048576)) := by
 unfold z0.f
 unfold maxN at hp
 by_cases h : (p.length : Int) > 1048576
 ·rw [if_pos (by simpa using h)]
  simp; omega
 ·rw [if_neg (by simpa using h), yr (by omega) (by omega)]
  congr 1
  rw [Bool.eq_iff_iff]
  simp; omega
theorem p_sameInts (p q : List Int) (hp : p.length ≤ big) : z11.f p q = some (decide (p = q)) :=
 eq_all p q hp (z11.l1 p q) _ (by omega) fun _ _ _ => rfl
theorem q_bet {p : List Nd} {l : List Int} (h : can p l = true) : ∃ (R : List (List Int)) (S : List (Int × Int × Int)), z0i.f p l = some S ∧ z0j.f p l = some R ∧ z0x.f p l = some R ∧ R.length = S.length + 1 ∧ R.length ≤ 122 ∧ ∀ v ∈ R, v.length ≤ 120 := by
 obtain ⟨h1, h2, h3, h4⟩ := can_facts h
 obtain ⟨S, e1, _, e3, _⟩ := p_findBoth h1 (show l.length ≤ 120 by omega)
 obtain ⟨R, f1, f2, f3, f4⟩ := p_between h1 h4 (show l.length ≤ 120 by omega)
 refine ⟨R, S, e1, f1, f2, ?_, f3, f4⟩
 obtain ⟨o, e, g1, _, g3, g4⟩ := p_bet (l := l) (by omega) S (by omega) S [] 0 (((S.length : Int) - 0).toNat + 2) [] rfl e3 (by omega) (Nat.le_refl _) (by omega)
 rw [List.nil_append] at g4
 unfold z0j.f at f1
 rw [e1] at f1
 simp only [Option.bind_some] at f1
 rw [show (([] : List (Int × Int × Int)).length : Int) = 0 from rfl, show ((0 : Nat) : Int) = 0 from rfl] at g1
 rw [g1] at f1
 simp only [Option.bind_some] at f1
 have ho : o.length = S.length := by
  have := congrArg List.length g4
  rw [cutsF_len] at this
  simpa using this
 rw [cut?_at g3 (Nat.le_refl _), List.take_length] at f1
 simp only [Option.bind_some] at f1
 rw [p_cloneM _ (by simp; omega)] at f1
 simp only [Option.bind_some] at f1
 rw [app?_at (by simp; omega)] at f1
 have := Option.some.inj f1
 rw [← this]
 simp [ho]
theorem q_Split (p : List Nd) (l : List Int) (hp : p.length ≤ big) (hq : ∀ u ∈ p, u.2.length ≤ big) (hl : l.length ≤ big) : ∃ r : List (List Int) × Bool, z0z.f p l = some r ∧ z10.f p l = some r ∧ r.2 = can p l ∧ r.1.length ≤ 122 ∧ (∀ v ∈ r.1, v.length ≤ 120) ∧ (can p l = true → z0j.f p l = some r.1 ∧ z0x.f p l = some r.1) := by
 unfold z0z.f z10.f
 obtain ⟨a, b⟩ := q_can p l hp hq hl
 rw [a, b]
 simp only [Option.bind_some]
 cases h : can p l with
 | false => exact ⟨([], false), rfl, rfl, rfl, by simp, by simp, fun h => by cases h⟩
 | true =>
  obtain ⟨R, S, e1, e2, e3, _, e5, e6⟩ := q_bet h
  rw [e2, e3]
  exact ⟨(R, true), rfl, rfl, rfl, e5, e6, fun _ => ⟨rfl, rfl⟩⟩
theorem p_sameLists (a : List (List Int)) (ha : a.length ≤ big) (hv : ∀ v ∈ a, v.length ≤ big) : z12.f a a = some true := by
 unfold z12.f
 rw [if_neg (by simp)]
 unfold big at ha
 have h : Tt (z12.l1 a a (((a.length : Int) - 0).toNat + 2) 0) fun o => o = .go () := by
  refine t_iter a.length (fun _ (_ : Unit) => True) _ (fun k i _ => z12.l1 a a k (i : Int)) (fun k i _ hi _ ih => ?_) (fun k _ _ => ?_) _ 0 () (by omega) (by omega) trivial
  ·show Tt (z12.l1 a a (k + 1) (i : Int)) _
   rw [z12.l1, if_pos (by simp; omega), rd?_at hi]
   simp only [Option.bind_some]
   rw [p_sameInts _ _ (hv _ (List.getElem_mem hi))]
   simp only [Option.bind_some, decide_true, Bool.not_true, Bool.false_eq_true, if_false]
   rw [yw i (by omega)]
   exact ih () trivial
  ·show Tt (z12.l1 a a (k + 1) (a.length : Int)) _
   rw [z12.l1, if_neg (by simp)]
   exact .one rfl
 obtain ⟨o, e, rfl⟩ := h
 rw [e]
 rfl
theorem q_loop (x : List Int) (u8 : List Nd × List Int × List Int) (u19 : List (List Int) × Bool) (hx : u8.2.2 = x) : ∀ (k : Nat) (out : List Int) (i : Int), z1z.l1 u8 u19 k out i = z0k.l1 x u19.1 k out i := by
 intro k
 induction k with
 | zero => intro out i; rfl
 | succ k ih =>
  intro out i
  rw [z1z.l1, z0k.l1, hx]
  simp only [ih]
theorem t_DrawReplace {code : List Int} (hc : allW (inK .u8) code) : Tt (zk.f code) fun r => smRe 31 r.1 ∧ r.2.1.length ≤ 100 ∧ r.2.2.length ≤ 100 := by
 unfold zk.f
 refine (t_pick hc (by decide) (by decide)).bind fun x hx => ?_
 have hx1 := hx.2.1 (by omega)
 obtain ⟨m, hm⟩ := Int.eq_ofNat_of_zero_le hx.1
 rw [hm, yr (by omega) (by omega), show (1 : Int) + m = ((1 + m : Nat) : Int) by omega]
 have hsz : szR (1 + m) ≤ 8 := by
  have : m = 0 ∨ m = 1 := by omega
  rcases this with rfl | rfl <;> decide
 unfold zh.f
 refine (t_re hc _ (1 + m) (by omega) _ x.2.1 x.2.2 (by omega) (by omega) (by omega)).bind fun p hp => ?_
 obtain ⟨l, a1, s1, e1, g1, _, g2, g3⟩ := p_small code hc p.2.1 p.2.2 10 (by omega) (by omega) (by omega) (by omega)
 rw [e1]
 simp only [Option.bind_some]
 obtain ⟨y, a2, s2, e2, g4, _, _, _⟩ := p_small code hc a1 s1 4 (by omega) (by omega) (by omega) (by omega)
 rw [e2]
 exact .one ⟨hp.1.mono (by omega), by dsimp only; omega, by dsimp only; omega⟩
theorem smRe.bd {n : Nat} {p : List Nd} (h : smRe n p) (hn : n ≤ 1000) : p.length ≤ big ∧ ∀ u ∈ p, u.2.length ≤ big := ⟨by have := h.1; unfold big; omega, fun u hu => by have := h.2 u hu; unfold big; omega⟩
theorem law_ReplacedIn (p q : List Int) (hp : allW (inK .u8) p) (hq : allW (inK .u8) q) : z1z.f p q = some true := by
 suffices h : Tt (z1z.f p q) fun r => r = true by
  obtain ⟨r, e, rfl⟩ := h
  exact e
 unfold z1z.f
 rw [p_big p q hp.1]
 refine (Tt.one (Φ := fun b => b = decide ((p.length : Int) + q.length > 1048576)) rfl).bind fun b hb => ?_
 refine Tt.ite (fun _ => .one rfl) (fun _ => ?_)
 refine (t_DrawReplace hp).bind fun u hu => ?_
 obtain ⟨a, l, x⟩ := u
 dsimp only at hu ⊢
 obtain ⟨hu1, hu2, hu3⟩ := hu
 obtain ⟨b1, b2⟩ := hu1.bd (by omega)
 have b3 : l.length ≤ big := by unfold big; omega
 have b4 : x.length ≤ big := by unfold big; omega
 obtain ⟨s, s1, s2, s3, s4, s5, s6⟩ := q_Split a l b1 b2 b3
 rw [s1, s2]
 -- what is replaced
 have rep : ∃ r : List Int × Bool, z0k.f a l x = some r ∧ z0y.f a l x = some r ∧ r.1.length ≤ 120 ∧ (r.2 = true → can a l = true ∧ z0k.l1 x s.1 (((s.1.length : Int) - 0).toNat + 2) [] 0 = some r.1) := by
  unfold z0k.f z0y.f
  obtain ⟨c1, c2⟩ := q_can a l b1 b2 b3
  rw [c1, c2]
  simp only [Option.bind_some]
  cases hcan : can a l with
  | false => exact ⟨([], false), rfl, rfl, by simp, fun h => by cases h⟩
  | true =>
   obtain ⟨t1, t2⟩ := s6 hcan
   simp only [Bool.not_true, Bool.false_eq_true, if_false]
   rw [can_runes x b4, p_allRunes x b4]
   simp only [Option.bind_some]
   have hb := both40 x
   have hsp : ((if (!(x.all okRune && decide (x.length ≤ 1000))) = true then some true else some (decide ((x.length : Int) > 40))) : Option Bool) = some (!(decide (x.length ≤ 40) && x.all okRune)) := by
    rw [← hb]
    cases x.all okRune && decide (x.length ≤ 1000) with
    | false => rfl
    | true =>
     simp only [Bool.not_true, Bool.false_eq_true, if_false, Bool.true_and]
     congr 1
     by_cases h : (x.length : Int) ≤ 40
     ·rw [decide_eq_false (by omega), decide_eq_true h]; rfl
     ·rw [decide_eq_true (by omega), decide_eq_false h]; rfl
   rw [hsp]
   simp only [Option.bind_some]
   cases h4 : (decide (x.length ≤ 40) && x.all okRune) with
   | false => exact ⟨([], false), rfl, rfl, by simp, fun h => by cases h⟩
   | true =>
    have hxl : x.length ≤ 40 := by simp only [Bool.and_eq_true, decide_eq_true_eq] at h4; exact h4.1
    simp only [Bool.not_true, Bool.false_eq_true, if_false]
    rw [t1, t2]
    simp only [Option.bind_some]
    obtain ⟨o, g1, g2, g3⟩ := p_rep (x := x) hxl s4 s5 s.1 [] (((s.1.length : Int) - 0).toNat + 2) [] rfl (by simp) (by omega)
    rw [show (([] : List (List Int)).length : Int) = 0 from rfl] at g1 g2
    rw [g1, g2]
    simp only [Option.bind_some]
    by_cases h5 : (o.length : Int) > 120
    ·rw [if_pos (by simpa using h5)]
     exact ⟨([], false), rfl, rfl, by simp, fun h => by cases h⟩
    ·rw [if_neg (by simpa using h5)]
     exact ⟨(o, true), rfl, rfl, by show o.length ≤ 120; omega, fun _ => ⟨trivial, rfl⟩⟩
 obtain ⟨r, r1, r2, r3, r4⟩ := rep
 rw [r1, r2]
 simp only [Option.bind_some, bne_self_eq_false, Bool.false_eq_true, if_false]
 rw [p_sameInts r.1 r.1 (by unfold big; omega), p_sameLists s.1 (by unfold big; omega) (fun v hv => by have := s5 v hv; unfold big; omega)]
 simp only [Option.bind_some, decide_true, Bool.not_true, Bool.false_eq_true, if_false]
 refine Tt.bind (Φ := fun o : Lo Unit Bool => o = .go ()) (Tt.ite (fun h => ?_) fun _ => .one rfl) fun o ho => ?_
 ·obtain ⟨hcan, hl1⟩ := r4 h
  obtain ⟨R, S, e1, e2, e3, e4, _, _⟩ := q_bet hcan
  have hR : R = s.1 := Option.some.inj (e2.symm.trans (s6 hcan).1)
  subst hR
  rw [q_loop x (a, l, x) s rfl, hl1]
  simp only [Option.bind_some]
  unfold z14.f z13.f
  obtain ⟨f1, f2, f3, f4⟩ := can_facts hcan
  rw [p_implRe a b1 b2, f1]
  simp only [Option.bind_some, if_true]
  rw [p_areRunes l 120 b3, f4]
  have c2 : decide ((l.length : Int) ≤ 120) = true := by simp; omega
  rw [c2]
  simp only [Option.bind_some, Bool.and_self, Bool.not_true, Bool.false_eq_true, if_false]
  rw [e1]
  simp only [Option.bind_some]
  rw [s3, hcan, p_sameInts r.1 r.1 (by unfold big; omega)]
  simp only [Option.bind_some, decide_true, Bool.not_true, Bool.false_eq_true, if_false]
  rw [yr (by omega) (by omega), e4]
  simp
  exact .one rfl
 subst ho
 dsimp only
 unfold z15.f
 refine Tt.bind (Φ := fun w : List Nd × List Int => smRe 31 w.1 ∧ w.2.length ≤ 100) ((t_DrawReplace hq).bind fun w hw => .one ⟨hw.1, hw.2.1⟩) fun w hw => ?_
 obtain ⟨d1, d2⟩ := hw.1.bd (by omega)
 obtain ⟨s', s1', s2', _, s4', s5', _⟩ := q_Split w.1 w.2 d1 d2 (by have := hw.2; unfold big; omega)
 rw [s1', s2']
 simp only [Option.bind_some]
 unfold z1s.f
 refine Tt.bind (Φ := fun w : List Nd × List Int => smRe 31 w.1 ∧ w.2.length ≤ 100) ?_ fun z hz => ?_
 ·refine (t_one hq (by decide) (by decide)).bind fun c hc => Tt.ite (fun _ => ?_) fun _ => ?_
  ·obtain ⟨y, a2, s2, e2, g4, _, _, _⟩ := p_small q hq c.2.1 c.2.2 5 (by omega) (by omega) (by omega) (by omega)
   rw [e2]
   exact .one ⟨⟨by simp, fun u hu => by simp at hu; rcases hu with rfl | rfl | rfl | rfl | rfl <;> simp⟩, by dsimp only; omega⟩
  ·exact (t_matched hq (by omega) (by omega)).bind fun m hm => .one ⟨hm.1, by have := hm.2.1; dsimp only; omega⟩
 ·obtain ⟨k1, k2⟩ := hz.1.bd (by omega)
  obtain ⟨n, n1, n2⟩ := p_CountParses z.1 z.2 k1 k2 (by have := hz.2; unfold big; omega)
  rw [n1, n2]
  simp only [Option.bind_some, beq_self_eq_true, if_true]
  rw [p_sameLists s'.1 (by unfold big; omega) (fun v hv => by have := s5' v hv; unfold big; omega)]
  exact .one rfl
end Go.Proofs.YtbeolahmnoeicaaGreat
