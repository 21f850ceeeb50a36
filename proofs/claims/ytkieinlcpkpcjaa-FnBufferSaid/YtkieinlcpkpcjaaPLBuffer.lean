/- Plain laws of the printed functions. Conditions as each lemma says. -/
import Derived.Test.YtkieinlcpkpcjaaPB
import Derived.Test.YtkieinlcpkpcjaaWLBuffer3
set_option linter.unusedVariables false
set_option linter.unusedSimpArgs false
namespace Go.Proofs.Ytkieinlcpkpcjaa
open Go Go.Proofs.GL
theorem p_l1In (a b c : Int) : spec_l1In.f a b c = some (decide (b ≤ a) && decide (a ≤ c)) := by
  unfold spec_l1In.f
  by_cases h : b ≤ a
  · rw [if_pos (by simpa using h)]; simp [h]
  · rw [if_neg (by simpa using h)]; simp [h]
theorem p_inRange (a b c : Int) : impl_inRange.f a b c = some (decide (b ≤ a) && decide (a ≤ c)) := by
  unfold impl_inRange.f
  by_cases h : b ≤ a
  · rw [if_pos (by simpa using h)]; simp [h]
  · rw [if_neg (by simpa using h)]; simp [h]
def okRune (r : Int) : Bool := decide (0 ≤ r) && decide (r ≤ 1114111) && !(decide (55296 ≤ r) && decide (r ≤ 57343))
theorem p_specRune (r : Int) : spec_GoodRune.f r = some (okRune r) := by
  unfold spec_GoodRune.f okRune
  simp only [p_l1In, Option.bind_some]
  cases (decide (0 ≤ r) && decide (r ≤ 1114111)) <;> rfl
theorem p_implRune (r : Int) : impl_GoodRune.f r = some (okRune r) := by
  unfold impl_GoodRune.f okRune
  simp only [p_inRange, Option.bind_some]
  cases (decide (0 ≤ r) && decide (r ≤ 1114111)) <;> rfl
theorem p_allRunes (p : List Int) (hp : p.length ≤ big) : spec_l1AllRunes.f p = some (p.all okRune && decide (p.length ≤ 1000)) := by
  unfold spec_l1AllRunes.f
  have := all_loop p hp (fun u => !okRune u) false (spec_l1AllRunes.l1 p) (fun k i => by rw [spec_l1AllRunes.l1]; simp only [p_specRune, Option.bind_some]) (((p.length : Int) - 0).toNat + 2) 0 (by omega) (by omega)
  rw [show ((0 : Nat) : Int) = 0 from rfl] at this
  rw [this, List.drop_zero]
  have e : p.any (fun u => !okRune u) = !p.all okRune := by rw [List.all_eq_not_any_not]; simp
  rw [e]
  cases h : p.all okRune <;> simp
  omega
theorem p_areRunes (p : List Int) (n : Int) (hp : p.length ≤ big) : impl_areRunes.f p n = some (decide ((p.length : Int) ≤ n) && p.all okRune) := by
  unfold impl_areRunes.f slices_ContainsFunc_int_int_impl_areRunes_1.f slices_IndexFunc_int_int_impl_areRunes_1.f
  by_cases h : (p.length : Int) ≤ n
  · rw [if_pos (by simpa using h)]
    have := scan_loop p hp (fun u => !okRune u) (fun i _ => i) (slices_IndexFunc_int_int_impl_areRunes_1.l1 p) (fun k i => by rw [slices_IndexFunc_int_int_impl_areRunes_1.l1]; simp only [impl_areRunes_1.f, p_implRune, Option.bind_some]) (((p.length : Int) - 0).toNat + 2) 0 (by omega) (by omega)
    rw [show ((0 : Nat) : Int) = 0 from rfl] at this
    rw [this, List.drop_zero]
    have e : p.all okRune = !(p.any fun u => !okRune u) := List.all_eq_not_any_not
    rw [e]
    cases hf : p.findIdx? (fun u => !okRune u) with
    | none =>
      have : p.any (fun u => !okRune u) = false := by
        rw [List.findIdx?_eq_none_iff] at hf
        simpa using hf
      rw [this]; simp [h]
    | some j =>
      obtain ⟨hj, h1, h2⟩ := List.findIdx?_eq_some_iff_getElem.1 hf
      have : p.any (fun u => !okRune u) = true := List.any_eq_true.2 ⟨_, List.getElem_mem hj, h1⟩
      rw [this]
      simp [hj]
  · rw [if_neg (by simpa using h)]
    simp [h]
theorem p_l1All (p : List Int) (a b : Int) (hp : p.length ≤ big) : spec_l1All.f p a b = some (p.all fun u => decide (a ≤ u) && decide (u ≤ b)) := by
  unfold spec_l1All.f
  have := all_loop p hp (fun u => !(decide (a ≤ u) && decide (u ≤ b))) false (spec_l1All.l1 p a b) (fun k i => by rw [spec_l1All.l1]; simp only [p_l1In, Option.bind_some]) (((p.length : Int) - 0).toNat + 2) 0 (by omega) (by omega)
  rw [show ((0 : Nat) : Int) = 0 from rfl] at this
  rw [this, List.drop_zero]
  have e : p.any (fun u => !(decide (a ≤ u) && decide (u ≤ b))) = !p.all fun u => decide (a ≤ u) && decide (u ≤ b) := by rw [List.all_eq_not_any_not]; simp
  rw [e]
  cases h : p.all fun u => decide (a ≤ u) && decide (u ≤ b) <;> simp
def okLong (u : Int) : Bool := decide (1 ≤ u) && decide (u ≤ 1000)
theorem p_longs (p : List Int) (hp : p.length ≤ big) : slices_ContainsFunc_int_int_impl_GoodBuf_1.f p = some (!p.all okLong) := by
  unfold slices_ContainsFunc_int_int_impl_GoodBuf_1.f slices_IndexFunc_int_int_impl_GoodBuf_1.f
  have e1 : ∀ u, impl_GoodBuf_1.f u = some (!okLong u) := fun u => by
    unfold impl_GoodBuf_1.f okLong
    simp only [p_inRange, Option.bind_some]
  have := scan_loop p hp (fun u => !okLong u) (fun i _ => i) (slices_IndexFunc_int_int_impl_GoodBuf_1.l1 p) (fun k i => by rw [slices_IndexFunc_int_int_impl_GoodBuf_1.l1]; simp only [e1, Option.bind_some]) (((p.length : Int) - 0).toNat + 2) 0 (by omega) (by omega)
  rw [show ((0 : Nat) : Int) = 0 from rfl] at this
  rw [this, List.drop_zero]
  have e : p.all okLong = !(p.any fun u => !okLong u) := List.all_eq_not_any_not
  rw [e, Bool.not_not]
  cases hf : p.findIdx? (fun u => !okLong u) with
  | none =>
    have : p.any (fun u => !okLong u) = false := by
      rw [List.findIdx?_eq_none_iff] at hf
      simpa using hf
    rw [this]; simp
  | some j =>
    obtain ⟨hj, h1, h2⟩ := List.findIdx?_eq_some_iff_getElem.1 hf
    have : p.any (fun u => !okLong u) = true := List.any_eq_true.2 ⟨_, List.getElem_mem hj, h1⟩
    rw [this]
    simp [hj]
def okBuf (m : Int) (rs ls : List Int) (g : Int) : Bool := (decide (1 ≤ m) && decide (m ≤ 60)) && decide ((rs.length : Int) ≤ m) && rs.all okRune && ((ls.length : Int) == (rs.length : Int)) && ls.all okLong && (decide (0 ≤ g) && decide (g ≤ 1000000))
theorem p_implBuf (m : Int) (rs ls : List Int) (g : Int) (hr : rs.length ≤ big) (hl : ls.length ≤ big) : impl_GoodBuf.f m rs ls g = some (okBuf m rs ls g) := by
  unfold impl_GoodBuf.f okBuf
  simp only [p_inRange, Option.bind_some, p_areRunes rs m hr, p_longs ls hl]
  generalize (decide (1 ≤ m) && decide (m ≤ 60)) = b1
  generalize decide ((rs.length : Int) ≤ m) = b2
  generalize rs.all okRune = b3
  generalize ((ls.length : Int) == (rs.length : Int)) = b4
  generalize ls.all okLong = b5
  generalize (decide (0 ≤ g) && decide (g ≤ 1000000)) = b6
  cases b1 <;> cases b2 <;> cases b3 <;> cases b4 <;> cases b5 <;> cases b6 <;> rfl
theorem p_specBuf (m : Int) (rs ls : List Int) (g : Int) (hr : rs.length ≤ big) (hl : ls.length ≤ big) : spec_GoodBuf.f m rs ls g = some (okBuf m rs ls g) := by
  unfold spec_GoodBuf.f okBuf
  simp only [p_l1In, Option.bind_some, p_allRunes rs hr, p_l1All ls 1 1000 hl]
  have e : (ls.all fun u => decide (1 ≤ u) && decide (u ≤ 1000)) = ls.all okLong := rfl
  rw [e]
  by_cases h1 : (rs.length : Int) ≤ m ∧ m ≤ 60
  · have h2 : rs.length ≤ 1000 := by omega
    simp only [h1, h2, decide_true, Bool.and_true]
    generalize decide (1 ≤ m) = b1
    generalize rs.all okRune = b3
    generalize ((ls.length : Int) == (rs.length : Int)) = b4
    generalize ls.all okLong = b5
    generalize (decide (0 ≤ g) && decide (g ≤ 1000000)) = b6
    cases b1 <;> cases b3 <;> cases b4 <;> cases b5 <;> cases b6 <;> rfl
  · by_cases h2 : m ≤ 60
    · have h3 : ¬ (rs.length : Int) ≤ m := fun h => h1 ⟨h, h2⟩
      simp only [h2, h3, decide_true, decide_false]
      cases decide (1 ≤ m) <;> simp
    · simp [h2]
theorem p_own (x : List Int) (hx : x.length ≤ big) : spec_l1Own.f x = some x := by
  unfold spec_l1Own.f
  unfold big at hx
  rw [app?_at (by simpa using hx)]
  rfl
theorem p_clone (x : List Int) (hx : x.length ≤ big) : slices_Clone_int_int.f x = some x := by
  unfold slices_Clone_int_int.f
  unfold big at hx
  rw [app?_at (by simpa using hx)]
  rfl
theorem cut0 {x : List Int} {n : Nat} (h : n ≤ x.length) : cut? x 0 (n : Int) = some (x.take n) := by
  have := cut?_at (xs := x) (a := 0) (b := n) (by omega) h
  rw [show ((0 : Nat) : Int) = 0 from rfl] at this
  simpa using this
theorem cutE {x : List Int} {n : Nat} (h : n ≤ x.length) : cut? x (n : Int) (x.length : Int) = some (x.drop n) := by
  have := cut?_at (xs := x) (a := n) (b := x.length) h (by omega)
  simpa using this
theorem p_grow (n : Nat) (hn : n ≤ big) : slices_Grow_int_int_nil.f (n : Int) = some [] := by
  unfold slices_Grow_int_int_nil.f
  unfold big at hn
  have e0 : IntKind.i64.wrap (0 - 0) = 0 := by decide
  have e1 : IntKind.i64.wrap ((n : Int) - 0) = n := by rw [Int.sub_zero]; exact wrapS (by omega) (by omega)
  rw [if_neg (by simp), e0, e1]
  by_cases h : 0 < n
  · rw [if_pos (by simpa using h), mk?_at (by omega)]
    have c1 : cut? ([] : List Int) 0 0 = some [] := cut0 (x := []) (n := 0) (by simp)
    have c2 : cut? (List.replicate n (0 : Int)) 0 0 = some [] := by simpa using cut0 (x := List.replicate n (0 : Int)) (n := 0) (by simp)
    rw [c1]
    simp only [Option.bind_some]
    rw [c2]
    rfl
  · rw [if_neg (by simpa using h)]
    rfl
theorem p_concat (a b : List Int) (h : a.length + b.length ≤ big) : slices_Concat_int_int.f [a, b] = some (a ++ b) := by
  have hh : a.length + b.length ≤ big := h
  unfold big at h
  have l1 : slices_Concat_int_int.l1 [a, b] 4 0 0 = some (((a.length + b.length : Nat)) : Int) := by
    rw [slices_Concat_int_int.l1]
    have w1 : IntKind.i64.wrap (0 + (a.length : Int)) = a.length := by rw [Int.zero_add]; exact wrapS (by omega) (by omega)
    have w2 : IntKind.i64.wrap ((a.length : Int) + (b.length : Int)) = ((a.length + b.length : Nat) : Int) := by rw [wrapS (by omega) (by omega)]; omega
    have i1 : IntKind.i64.wrap (0 + 1) = 1 := by decide
    have i2 : IntKind.i64.wrap (1 + 1) = 2 := by decide
    have r0 : rd? [a, b] 0 = some a := rd?_at (xs := [a, b]) (i := 0) (by simp)
    have r1 : rd? [a, b] 1 = some b := rd?_at (xs := [a, b]) (i := 1) (by simp)
    rw [if_pos (by simp), r0]
    simp only [Option.bind_some]
    rw [w1, if_neg (by simp), i1, slices_Concat_int_int.l1, if_pos (by simp), r1]
    simp only [Option.bind_some]
    rw [w2, if_neg (by simp; omega), i2, slices_Concat_int_int.l1, if_neg (by simp)]
  have l2 : slices_Concat_int_int.l2 [a, b] 4 [] 0 = some (a ++ b) := by
    have i1 : IntKind.i64.wrap (0 + 1) = 1 := by decide
    have i2 : IntKind.i64.wrap (1 + 1) = 2 := by decide
    have r0 : rd? [a, b] 0 = some a := rd?_at (xs := [a, b]) (i := 0) (by simp)
    have r1 : rd? [a, b] 1 = some b := rd?_at (xs := [a, b]) (i := 1) (by simp)
    rw [slices_Concat_int_int.l2, if_pos (by simp), r0]
    simp only [Option.bind_some]
    rw [app?_at (by simp; omega)]
    simp only [Option.bind_some, List.nil_append]
    rw [i1, slices_Concat_int_int.l2, if_pos (by simp), r1]
    simp only [Option.bind_some]
    rw [app?_at (by omega)]
    simp only [Option.bind_some]
    rw [i2, slices_Concat_int_int.l2, if_neg (by simp)]
  unfold slices_Concat_int_int.f
  show (slices_Concat_int_int.l1 [a, b] 4 0 0).bind _ = _
  rw [l1]
  simp only [Option.bind_some]
  rw [p_grow _ hh]
  simp only [Option.bind_some]
  show (slices_Concat_int_int.l2 [a, b] 4 [] 0).bind _ = _
  rw [l2]
  rfl
def addAll (s : Int) (xs : List Int) : Int := xs.foldl (fun s u => IntKind.i64.wrap (s + u)) s
theorem p_bytes (x : List Int) (hx : x.length ≤ big) (g : Int) : impl_Buf_bytes.l1 x (((x.length : Int) - 0).toNat + 2) g 0 = some (addAll g x) := by
  have := run_loop x hx (fun s u K => K (IntKind.i64.wrap (s + u))) (fun s => some s) (impl_Buf_bytes.l1 x) (fun _ _ _ => rfl) (((x.length : Int) - 0).toNat + 2) 0 g (by omega) (by omega)
  rw [show ((0 : Nat) : Int) = 0 from rfl] at this
  rw [this, List.drop_zero, runS_fold (fun s u => IntKind.i64.wrap (s + u))]
  rfl
theorem p_dropSum (x : List Int) (hx : x.length ≤ big) (g : Int) : spec_l10Drop.l1 x (((x.length : Int) - 0).toNat + 2) 0 g = some (addAll g x) := by
  have := run_loop x hx (fun s u K => K (IntKind.i64.wrap (s + u))) (fun s => some s) (fun k s i => spec_l10Drop.l1 x k i s) (fun _ _ _ => rfl) (((x.length : Int) - 0).toNat + 2) 0 g (by omega) (by omega)
  rw [show ((0 : Nat) : Int) = 0 from rfl] at this
  rw [this, List.drop_zero, runS_fold (fun s u => IntKind.i64.wrap (s + u))]
  rfl
theorem p_take (m : Int) (rs ls : List Int) (g : Int) (n : Nat) (hn : n ≤ rs.length) (hl : n ≤ ls.length) (h1 : rs.length ≤ big) (h2 : ls.length ≤ big) : impl_Buf_take.f m rs ls g n = some (rs.take n, rs.drop n, ls.drop n, addAll g (ls.take n)) := by
  unfold impl_Buf_take.f impl_Buf_bytes.f
  rw [cut0 hn, cut0 hl, cutE hn, cutE hl]
  simp only [Option.bind_some]
  rw [p_clone _ (by simp; omega), p_bytes _ (by simp; omega), p_clone _ (by simp; omega), p_clone _ (by simp; omega)]
  rfl
theorem p_drop (m : Int) (rs ls : List Int) (g : Int) (n : Nat) (hn : n ≤ rs.length) (hl : n ≤ ls.length) (h1 : rs.length ≤ big) (h2 : ls.length ≤ big) : spec_l10Drop.f m rs ls g n = some (m, rs.drop n, ls.drop n, addAll g (ls.take n), rs.take n) := by
  unfold spec_l10Drop.f
  rw [cut0 hn, cut0 hl, cutE hn, cutE hl]
  simp only [Option.bind_some]
  rw [p_own _ (by simp; omega), p_own _ (by simp; omega), p_own _ (by simp; omega)]
  simp only [Option.bind_some]
  rw [p_dropSum _ (by simp; omega)]
  rfl
theorem p_most (a b : Int) : spec_l1Most.f a b = some (max a b) := by
  unfold spec_l1Most.f
  by_cases h : a > b
  · rw [if_pos (by simpa using h), Int.max_eq_left (by omega)]
  · rw [if_neg (by simpa using h), Int.max_eq_right (by omega)]
def over (m : Int) (xs : List Int) : Nat := (max 0 ((xs.length : Int) - m)).toNat
theorem p_bufPut (m : Int) (rs ls : List Int) (g : Int) (p q : List Int) (h0 : 0 ≤ m) (hm : m ≤ 1000) (h1 : rs.length + p.length ≤ big) (h2 : rs.length = ls.length) (h3 : p.length = q.length) :
    impl_Buf_put.f m rs ls g p q = some ((rs ++ p).take (over m (rs ++ p)), okBuf m ((rs ++ p).drop (over m (rs ++ p))) ((ls ++ q).drop (over m (rs ++ p))) (addAll g ((ls ++ q).take (over m (rs ++ p)))), (rs ++ p).drop (over m (rs ++ p)), (ls ++ q).drop (over m (rs ++ p)), addAll g ((ls ++ q).take (over m (rs ++ p)))) ∧
    spec_l10Put.f m rs ls g p q = some (m, (rs ++ p).drop (over m (rs ++ p)), (ls ++ q).drop (over m (rs ++ p)), addAll g ((ls ++ q).take (over m (rs ++ p))), (rs ++ p).take (over m (rs ++ p))) := by
  have hb : rs.length + p.length ≤ 1099511627776 ∨ True := .inr trivial
  have hw : IntKind.i64.wrap (((rs ++ p).length : Int) - m) = ((rs ++ p).length : Int) - m := by
    unfold big at h1
    exact wrapS (by simp; omega) (by simp; omega)
  have hk : max 0 (((rs ++ p).length : Int) - m) = ((over m (rs ++ p) : Nat) : Int) := by unfold over; omega
  have hk1 : over m (rs ++ p) ≤ (rs ++ p).length := by unfold over; omega
  have hk2 : over m (rs ++ p) ≤ (ls ++ q).length := by rw [List.length_append, ← h2, ← h3, ← List.length_append]; exact hk1
  have b1 : (rs ++ p).length ≤ big := by simpa using h1
  have b2 : (ls ++ q).length ≤ big := by simp; omega
  constructor
  · unfold impl_Buf_put.f
    rw [p_concat rs p h1, p_concat ls q (by omega)]
    simp only [Option.bind_some]
    rw [hw, hk, p_take m _ _ g _ hk1 hk2 b1 b2]
    simp only [Option.bind_some]
    rw [p_implBuf _ _ _ _ (by rw [List.length_drop]; omega) (by rw [List.length_drop]; omega)]
    rfl
  · unfold spec_l10Put.f
    rw [p_own rs (by omega), p_own ls (by omega)]
    have a1 : app? 17592186044416 rs p = some (rs ++ p) := app?_at (by unfold big at h1; omega)
    have a2 : app? 17592186044416 ls q = some (ls ++ q) := app?_at (by unfold big at h1; omega)
    simp only [Option.bind_some, a1, a2, p_most]
    rw [hw, hk, p_drop m _ _ g _ hk1 hk2 b1 b2]
    rfl
theorem p_longs2 (p : List Int) (hp : p.length ≤ big) : slices_ContainsFunc_int_int_impl_PutBuf_1.f p = some (!p.all okLong) := by
  unfold slices_ContainsFunc_int_int_impl_PutBuf_1.f slices_IndexFunc_int_int_impl_PutBuf_1.f
  have e1 : ∀ u, impl_PutBuf_1.f u = some (!okLong u) := fun u => by
    unfold impl_PutBuf_1.f okLong
    simp only [p_inRange, Option.bind_some]
  have := scan_loop p hp (fun u => !okLong u) (fun i _ => i) (slices_IndexFunc_int_int_impl_PutBuf_1.l1 p) (fun k i => by rw [slices_IndexFunc_int_int_impl_PutBuf_1.l1]; simp only [e1, Option.bind_some]) (((p.length : Int) - 0).toNat + 2) 0 (by omega) (by omega)
  rw [show ((0 : Nat) : Int) = 0 from rfl] at this
  rw [this, List.drop_zero]
  have e : p.all okLong = !(p.any fun u => !okLong u) := List.all_eq_not_any_not
  rw [e, Bool.not_not]
  cases hf : p.findIdx? (fun u => !okLong u) with
  | none =>
    have : p.any (fun u => !okLong u) = false := by
      rw [List.findIdx?_eq_none_iff] at hf
      simpa using hf
    rw [this]; simp
  | some j =>
    obtain ⟨hj, h1, h2⟩ := List.findIdx?_eq_some_iff_getElem.1 hf
    have : p.any (fun u => !okLong u) = true := List.any_eq_true.2 ⟨_, List.getElem_mem hj, h1⟩
    rw [this]
    simp [hj]
def putOk (m : Int) (rs ls : List Int) (g : Int) (p q : List Int) : Bool := okBuf m rs ls g && decide (p.length = q.length) && decide (p.length ≤ 1000) && q.all okLong && p.all okRune && okBuf m ((rs ++ p).drop (over m (rs ++ p))) ((ls ++ q).drop (over m (rs ++ p))) (addAll g ((ls ++ q).take (over m (rs ++ p))))
def putR (m : Int) (rs ls : List Int) (g : Int) (p q : List Int) : Int × List Int × List Int × Int × List Int × Bool := if putOk m rs ls g p q then (m, (rs ++ p).drop (over m (rs ++ p)), (ls ++ q).drop (over m (rs ++ p)), addAll g ((ls ++ q).take (over m (rs ++ p))), (rs ++ p).take (over m (rs ++ p)), true) else (0, [], [], 0, [], false)
theorem p_PutBufX (m : Int) (rs ls : List Int) (g : Int) (p q : List Int) (hr : rs.length ≤ big) (hl : ls.length ≤ big) (hp : p.length ≤ big) (hq : q.length ≤ big) : impl_PutBuf.f m rs ls g p q = some (putR m rs ls g p q) ∧ spec_PutBuf.f m rs ls g p q = some (putR m rs ls g p q) := by
  unfold impl_PutBuf.f spec_PutBuf.f putR putOk
  have e : (q.all fun u => decide (1 ≤ u) && decide (u ≤ 1000)) = q.all okLong := rfl
  simp only [p_implBuf m rs ls g hr hl, p_specBuf m rs ls g hr hl, Option.bind_some, p_allRunes p hp, p_l1All q 1 1000 hq, p_longs2 q hq, e]
  cases hs : okBuf m rs ls g with
  | false => exact ⟨rfl, rfl⟩
  | true =>
    simp only [Bool.not_true, Bool.false_eq_true, if_false, Bool.true_and]
    by_cases h1 : p.length = q.length
    · have n2 : ((p.length : Int) != (q.length : Int)) = false := by simp [h1]
      have n3 : ((q.length : Int) != (p.length : Int)) = false := by simp [h1]
      by_cases h2 : p.length ≤ 1000
      · have n1 : ¬ (p.length : Int) > 1000 := by omega
        have d1 : decide (p.length = q.length) = true := by simpa using h1
        have d3 : decide (p.length ≤ 1000) = true := by simpa using h2
        cases h3 : q.all okLong with
        | false =>
          simp only [n1, n2, n3, decide_false, Bool.false_eq_true, if_false, Bool.not_false, Option.bind_some, if_true, Bool.and_false, Bool.false_and]
          refine ⟨by first | rfl | trivial, ?_⟩
          split <;> rfl
        | true =>
          simp only [n1, n2, n3, decide_false, Bool.false_eq_true, if_false, Bool.not_true, Option.bind_some, if_true]
          simp only [okBuf, Bool.and_eq_true, decide_eq_true_eq, beq_iff_eq] at hs
          have hrs : rs.length ≤ 60 := by omega
          obtain ⟨g1, g2⟩ := p_bufPut m rs ls g p q (by omega) (by omega) (by unfold big; omega) (by omega) h1
          unfold impl_Buf_clone.f
          rw [p_clone rs hr, p_clone ls hl]
          simp only [Option.bind_some]
          rw [g1]
          simp only [Option.bind_some, p_areRunes p 1000 hp]
          have d2 : decide ((p.length : Int) ≤ 1000) = true := by simp; omega
          rw [d2, d3, d1, Bool.and_true, Bool.true_and]
          have L1 : ((rs ++ p).drop (over m (rs ++ p))).length ≤ 2000 := by simp; omega
          have L2 : ((ls ++ q).drop (over m (rs ++ p))).length ≤ 2000 := by simp; omega
          cases h4 : p.all okRune with
          | false =>
            refine ⟨?_, rfl⟩
            split <;> rfl
          | true =>
            simp only [Bool.not_true, Bool.false_eq_true, if_false, Option.bind_some]
            rw [g2]
            simp only [Option.bind_some]
            rw [p_specBuf _ _ _ _ (by unfold big; omega) (by unfold big; omega)]
            simp only [Option.bind_some]
            cases okBuf m ((rs ++ p).drop (over m (rs ++ p))) ((ls ++ q).drop (over m (rs ++ p))) (addAll g ((ls ++ q).take (over m (rs ++ p)))) <;> exact ⟨by first | rfl | trivial, by first | rfl | trivial⟩
      · have n1 : (p.length : Int) > 1000 := by omega
        have d3 : decide (p.length ≤ 1000) = false := by simpa using h2
        refine ⟨?_, ?_⟩
        · simp [n2, n1, d3]
        · simp [d3]
    · have n2 : ((p.length : Int) != (q.length : Int)) = true := by simp; omega
      have n3 : ((q.length : Int) != (p.length : Int)) = true := by simp; omega
      have d1 : decide (p.length = q.length) = false := by simpa using h1
      refine ⟨?_, ?_⟩
      · simp [n2, d1]
      · rw [n3, d1]
        split <;> rfl
/-- Plain sums. -/
def lsum : List Int → Int
  | [] => 0
  | x :: xs => x + lsum xs
theorem lsum_app : ∀ a b, lsum (a ++ b) = lsum a + lsum b
  | [], b => by simp [lsum]
  | x :: a, b => by simp only [List.cons_append, lsum, lsum_app a b]; omega
theorem lsum_bd : ∀ a : List Int, a.all okLong = true → (a.length : Int) ≤ lsum a ∧ lsum a ≤ 1000 * a.length
  | [], _ => by simp [lsum]
  | x :: a, h => by
    rw [List.all_cons, Bool.and_eq_true] at h
    have ih := lsum_bd a h.2
    have hx := h.1
    simp only [okLong, Bool.and_eq_true, decide_eq_true_eq] at hx
    simp only [lsum, List.length_cons]
    omega
theorem addAll_sum : ∀ (a : List Int) (g : Int), a.all okLong = true → 0 ≤ g → g + 1000 * a.length ≤ 1000000000 → addAll g a = g + lsum a
  | [], g, _, _, _ => by simp [addAll, lsum]
  | x :: a, g, h, h0, h1 => by
    rw [List.all_cons, Bool.and_eq_true] at h
    have hx := h.1
    simp only [okLong, Bool.and_eq_true, decide_eq_true_eq] at hx
    simp only [List.length_cons] at h1
    show addAll (IntKind.i64.wrap (g + x)) a = _
    rw [wrapS (by omega) (by omega), addAll_sum a (g + x) h.2 (by omega) (by omega)]
    simp only [lsum]
    omega
theorem addAll_app (g : Int) (a b : List Int) : addAll g (a ++ b) = addAll (addAll g a) b := by simp [addAll]
theorem all_take {t : Int → Bool} {a : List Int} (h : a.all t = true) (n : Nat) : (a.take n).all t = true := by
  rw [List.all_eq_true] at h ⊢
  exact fun x hx => h x (List.mem_of_mem_take hx)
theorem all_drop {t : Int → Bool} {a : List Int} (h : a.all t = true) (n : Nat) : (a.drop n).all t = true := by
  rw [List.all_eq_true] at h ⊢
  exact fun x hx => h x (List.mem_of_mem_drop hx)
theorem over_eq (m : Int) (xs : List Int) (h : 0 ≤ m) : over m xs = xs.length - m.toNat := by unfold over; omega
/-- What comes in two pieces. -/
theorem put_split {m : Int} {rs ls : List Int} {g : Int} {p q : List Int} (h : putOk m rs ls g p q = true) (k : Nat) (hk : k ≤ p.length) :
    putOk m rs ls g (p.take k) (q.take k) = true ∧
    ∀ rs' ls' g' t, putR m rs ls g (p.take k) (q.take k) = (m, rs', ls', g', t, true) → putOk m rs' ls' g' (p.drop k) (q.drop k) = true ∧ putR m rs' ls' g' (p.drop k) (q.drop k) = (m, (putR m rs ls g p q).2.1, (putR m rs ls g p q).2.2.1, (putR m rs ls g p q).2.2.2.1, (putR m rs' ls' g' (p.drop k) (q.drop k)).2.2.2.2.1, true) ∧ t ++ (putR m rs' ls' g' (p.drop k) (q.drop k)).2.2.2.2.1 = (putR m rs ls g p q).2.2.2.2.1 := by
  have hall := h
  unfold putOk at h
  simp only [Bool.and_eq_true, decide_eq_true_eq] at h
  obtain ⟨⟨⟨⟨⟨h1, h2⟩, h3⟩, h4⟩, h5⟩, h6⟩ := h
  have hb := h1
  have hb6 := h6
  simp only [okBuf, Bool.and_eq_true, decide_eq_true_eq, beq_iff_eq] at h1 h6
  obtain ⟨⟨⟨⟨⟨a1, a2⟩, a3⟩, a4⟩, a5⟩, a6⟩ := h1
  obtain ⟨⟨⟨⟨⟨c1, c2⟩, c3⟩, c4⟩, c5⟩, c6⟩ := h6
  obtain ⟨M, rfl⟩ := Int.eq_ofNat_of_zero_le (show 0 ≤ m by omega)
  have hls : ls.length = rs.length := by omega
  have e0 : over (M : Int) (rs ++ p) = rs.length + p.length - M := by rw [over_eq _ _ (by omega)]; simp
  have e1 : over (M : Int) (rs ++ p.take k) = rs.length + k - M := by rw [over_eq _ _ (by omega)]; simp; omega
  have hsplit1 : rs ++ p = rs ++ p.take k ++ p.drop k := by rw [List.append_assoc, List.take_append_drop]
  have hsplit2 : ls ++ q = ls ++ q.take k ++ q.drop k := by rw [List.append_assoc, List.take_append_drop]
  have hq4 : (ls ++ q).all okLong = true := by rw [List.all_append, a5, h4]; rfl
  have hq5 : (rs ++ p).all okRune = true := by rw [List.all_append, a3, h5]; rfl
  have hlt1 : (rs ++ p.take k).length = rs.length + k := by simp; omega
  have hlt2 : (ls ++ q.take k).length = rs.length + k := by simp; omega
  have t1 : (ls ++ q.take k).take (rs.length + k - M) = (ls ++ q).take (rs.length + k - M) := by rw [hsplit2, List.take_append_of_le_length (l₁ := ls ++ q.take k) (by omega)]
  have s1 : (ls ++ q).take (rs.length + p.length - M) = (ls ++ q).take (rs.length + k - M) ++ ((ls ++ q).drop (rs.length + k - M)).take ((rs.length + p.length - M) - (rs.length + k - M)) := by
    have : rs.length + p.length - M = (rs.length + k - M) + ((rs.length + p.length - M) - (rs.length + k - M)) := by omega
    rw [this, List.take_add]
    congr 2
    omega
  have g1 := addAll_sum ((ls ++ q).take (rs.length + k - M)) g (all_take hq4 _) (by omega) (by simp; omega)
  have g2 := addAll_sum ((ls ++ q).take (rs.length + p.length - M)) g (all_take hq4 _) (by omega) (by simp; omega)
  have g3 := (lsum_bd ((ls ++ q).take (rs.length + k - M)) (all_take hq4 _)).1
  have g4 := (lsum_bd (((ls ++ q).drop (rs.length + k - M)).take ((rs.length + p.length - M) - (rs.length + k - M))) (all_take (all_drop hq4 _) _)).1
  have g5 : lsum ((ls ++ q).take (rs.length + p.length - M)) = lsum ((ls ++ q).take (rs.length + k - M)) + lsum (((ls ++ q).drop (rs.length + k - M)).take ((rs.length + p.length - M) - (rs.length + k - M))) := by rw [← lsum_app, ← s1]
  rw [e0] at c6
  have hq1 : (q.take k).all okLong = true := all_take h4 _
  have hp1 : (p.take k).all okRune = true := all_take h5 _
  have dl1 : ((rs ++ p.take k).drop (rs.length + k - M)).length = rs.length + k - (rs.length + k - M) := by rw [List.length_drop, hlt1]
  have dl2 : ((ls ++ q.take k).drop (rs.length + k - M)).length = rs.length + k - (rs.length + k - M) := by rw [List.length_drop, hlt2]
  have ok1 : putOk (M : Int) rs ls g (p.take k) (q.take k) = true := by
    unfold putOk
    rw [e1, t1, hb, hq1, hp1]
    simp only [Bool.true_and, Bool.and_true, Bool.and_eq_true, decide_eq_true_eq]
    refine ⟨⟨by simp; omega, by simp; omega⟩, ?_⟩
    simp only [okBuf, Bool.and_eq_true, decide_eq_true_eq, beq_iff_eq]
    refine ⟨⟨⟨⟨⟨a1, by rw [dl1]; omega⟩, ?_⟩, by rw [dl1, dl2]⟩, ?_⟩, ?_⟩
    · refine all_drop ?_ _
      rw [List.all_append, a3, hp1]; rfl
    · refine all_drop ?_ _
      rw [List.all_append, a5, hq1]; rfl
    · rw [g1]; omega
  refine ⟨ok1, ?_⟩
  intro rs' ls' g' t hR
  unfold putR at hR
  rw [if_pos ok1, e1, t1] at hR
  simp only [Prod.mk.injEq, true_and, and_true] at hR
  obtain ⟨rfl, rfl, rfl, rfl⟩ := hR
  have m1 : (rs ++ p.take k).drop (rs.length + k - M) ++ p.drop k = (rs ++ p).drop (rs.length + k - M) := by rw [hsplit1, List.drop_append_of_le_length (l₁ := rs ++ p.take k) (by omega)]
  have m2 : (ls ++ q.take k).drop (rs.length + k - M) ++ q.drop k = (ls ++ q).drop (rs.length + k - M) := by rw [hsplit2, List.drop_append_of_le_length (l₁ := ls ++ q.take k) (by omega)]
  have e2 : over (M : Int) ((rs ++ p).drop (rs.length + k - M)) = rs.length + p.length - (rs.length + k - M) - M := by rw [over_eq _ _ (by omega)]; simp
  have e3 : (rs.length + k - M) + (rs.length + p.length - (rs.length + k - M) - M) = rs.length + p.length - M := by omega
  have hgs : addAll (addAll g ((ls ++ q).take (rs.length + k - M))) (((ls ++ q).drop (rs.length + k - M)).take (rs.length + p.length - (rs.length + k - M) - M)) = addAll g ((ls ++ q).take (rs.length + p.length - M)) := by
    rw [← addAll_app, s1]
    congr 3
    omega
  have ok2 : putOk (M : Int) ((rs ++ p.take k).drop (rs.length + k - M)) ((ls ++ q.take k).drop (rs.length + k - M)) (addAll g ((ls ++ q).take (rs.length + k - M))) (p.drop k) (q.drop k) = true := by
    have hb1 := ok1
    unfold putOk at hb1
    rw [e1, t1] at hb1
    simp only [Bool.and_eq_true] at hb1
    unfold putOk
    rw [m1, m2, e2, hb1.2, all_drop h4, all_drop h5, hgs, List.drop_drop, List.drop_drop, e3]
    rw [e0] at hb6
    rw [hb6]
    simp only [Bool.true_and, Bool.and_true, Bool.and_eq_true, decide_eq_true_eq]
    exact ⟨by simp; omega, by simp; omega⟩
  refine ⟨ok2, ?_, ?_⟩
  · unfold putR
    rw [if_pos ok2, if_pos hall, m1, m2, e2, e0, hgs, List.drop_drop, List.drop_drop, e3]
  · unfold putR
    rw [if_pos ok2, if_pos hall, m1, e2, e0]
    show _ ++ _ = _
    rw [hsplit1, ← List.take_append_of_le_length (l₁ := rs ++ p.take k) (l₂ := p.drop k) (by omega)]
    rw [← List.take_add, e3]
theorem wrapU (n : Int) : 0 ≤ IntKind.u64.wrap n ∧ IntKind.u64.wrap n < 18446744073709551616 := by rw [IntKind.wrap_u64]; omega
theorem p_next (code : List Int) (hc : allW (inK .u8) code) (a s : Int) (h0 : 0 ≤ a) (h1 : a ≤ 1000000000000000) : ∃ n s', spec_l1Cur_next.f code a s = some (n, a + 1, s') ∧ 0 ≤ n ∧ n ≤ 255 := by
  unfold spec_l1Cur_next.f
  have key : ∃ x : Int, (if (decide (a < (code.length : Int))) = true then ((rd? code a).bind fun u10 => some (IntKind.i64.wrap u10)) else (some 0)) = some x ∧ 0 ≤ x ∧ x ≤ 255 := by
    obtain ⟨k, rfl⟩ := Int.eq_ofNat_of_zero_le h0
    by_cases h : k < code.length
    · rw [if_pos (by simpa using h), rd?_at h]
      have hb : -0 ≤ code[k] ∧ code[k] ≤ 255 := by
        have := hc.2 _ (List.getElem_mem h)
        exact this
      simp only [Option.bind_some]
      rw [wrapS (by omega) (by omega)]
      exact ⟨_, rfl, by omega, by omega⟩
    · rw [if_neg (by simpa using h)]
      exact ⟨0, rfl, by omega, by omega⟩
  obtain ⟨x, e, x0, x1⟩ := key
  rw [e]
  simp only [Option.bind_some]
  rw [wrapS (n := a + 1) (by omega) (by omega)]
  generalize IntKind.u64.wrap (IntKind.u64.wrap (IntKind.u64.wrap (s * 6364136223846793005) + IntKind.u64.wrap x) + 1442695040888963407) = y
  by_cases h : a + 1 ≤ (code.length : Int)
  · rw [if_pos (by simpa using h)]
    exact ⟨x, y, rfl, x0, x1⟩
  · rw [if_neg (by simpa using h)]
    have hs : ∃ q, shrK? .u64 y 40 = some q := ⟨_, by unfold shrK?; rw [if_pos (by decide)]⟩
    obtain ⟨q, hq⟩ := hs
    rw [hq]
    simp only [Option.bind_some]
    have hb : 0 ≤ bits .and .u64 q 255 ∧ bits .and .u64 q 255 ≤ 255 := by
      unfold bits
      dsimp only
      have : (BitVec.ofInt IntKind.u64.bits q &&& BitVec.ofInt IntKind.u64.bits 255).toNat ≤ 255 := by
        rw [BitVec.toNat_and]
        exact Nat.le_trans Nat.and_le_right (by decide)
      rw [IntKind.wrap_u64]
      omega
    rw [wrapS (by omega) (by omega)]
    exact ⟨_, y, rfl, hb.1, hb.2⟩
theorem p_pick (code : List Int) (hc : allW (inK .u8) code) (a s n : Int) (h0 : 0 ≤ a) (h1 : a ≤ 1000000000000) : ∃ r a' s', spec_l1Cur_pick.f code a s n = some (r, a', s') ∧ 0 ≤ r ∧ (1 ≤ n → r < n) ∧ (n ≤ 1 → r = 0) ∧ r ≤ 65535 ∧ a ≤ a' ∧ a' ≤ a + 2 := by
  unfold spec_l1Cur_pick.f
  by_cases hn : n ≤ 1
  · rw [if_pos (by simpa using hn)]
    exact ⟨0, a, s, rfl, by omega, by omega, by omega, by omega, by omega, by omega⟩
  · rw [if_neg (by simpa using hn)]
    obtain ⟨x, s1, e1, x0, x1⟩ := p_next code hc a s h0 (by omega)
    rw [e1]
    simp only [Option.bind_some]
    have key : ∀ (v a' s' : Int), 0 ≤ v → v ≤ 65535 → a ≤ a' → a' ≤ a + 2 → ∃ r b' t', (rem? v n).bind (fun u20 => some (u20, a', s')) = some (r, b', t') ∧ 0 ≤ r ∧ (1 ≤ n → r < n) ∧ (n ≤ 1 → r = 0) ∧ r ≤ 65535 ∧ a ≤ b' ∧ b' ≤ a + 2 := by
      intro v a' s' v0 v1 b0 b1
      unfold rem?
      rw [if_neg (by omega)]
      have e := Int.tmod_eq_emod_of_nonneg (b := n) v0
      have hb := Int.emod_lt_of_pos v (show 0 < n by omega)
      have hb0 := Int.emod_nonneg v (show n ≠ 0 by omega)
      have hb1 : v % n ≤ v := by
        by_cases hvn : v < n
        · rw [Int.emod_eq_of_lt v0 hvn]; exact Int.le_refl _
        · omega
      rw [e]
      exact ⟨_, a', s', rfl, hb0, fun _ => hb, by omega, by omega, b0, b1⟩
    by_cases h2 : n > 200
    · rw [if_pos (by simpa using h2)]
      obtain ⟨y, s2, e2, y0, y1⟩ := p_next code hc (a + 1) s1 (by omega) (by omega)
      rw [e2]
      simp only [Option.bind_some]
      rw [wrapS (n := x * 256) (by omega) (by omega), wrapS (by omega) (by omega)]
      exact key (x * 256 + y) (a + 1 + 1) s2 (by omega) (by omega) (by omega) (by omega)
    · rw [if_neg (by simpa using h2)]
      exact key x (a + 1) s1 (by omega) (by omega) (by omega) (by omega)
theorem p_among (code : List Int) (hc : allW (inK .u8) code) (a s : Int) (l : List Int) (hl : l ≠ []) (h0 : 0 ≤ a) (h1 : a ≤ 1000000000000) : ∃ r a' s', spec_l1Cur_among.f code a s l = some (r, a', s') ∧ r ∈ l ∧ a ≤ a' ∧ a' ≤ a + 2 := by
  unfold spec_l1Cur_among.f
  have hp : 0 < l.length := List.length_pos_iff.2 hl
  obtain ⟨r, a', s', e, r0, r1, _, _, b0, b1⟩ := p_pick code hc a s (l.length : Int) h0 h1
  rw [e]
  simp only [Option.bind_some]
  obtain ⟨k, rfl⟩ := Int.eq_ofNat_of_zero_le r0
  have hk : k < l.length := by have := r1 (by omega); omega
  rw [rd?_at hk]
  exact ⟨_, a', s', rfl, List.getElem_mem hk, b0, b1⟩
theorem p_one (code : List Int) (hc : allW (inK .u8) code) (a s n : Int) (h0 : 0 ≤ a) (h1 : a ≤ 1000000000000) : ∃ (r : Bool) (a' s' : Int), spec_l1Cur_one.f code a s n = some (r, a', s') ∧ a ≤ a' ∧ a' ≤ a + 2 := by
  unfold spec_l1Cur_one.f
  obtain ⟨r, a', s', e, _, _, _, _, b0, b1⟩ := p_pick code hc a s n h0 h1
  rw [e]
  exact ⟨_, a', s', rfl, b0, b1⟩
theorem p_least (a b : Int) : spec_l1Least.f a b = some (min a b) := by
  unfold spec_l1Least.f
  by_cases h : a < b
  · rw [if_pos (by simpa using h), Int.min_eq_left (by omega)]
  · rw [if_neg (by simpa using h), Int.min_eq_right (by omega)]
theorem p_buf (code : List Int) (hc : allW (inK .u8) code) (a s : Int) (h0 : 0 ≤ a) (h1 : a ≤ 10000000000) : ∃ (m : Int) (rs ls : List Int) (g a' s' : Int), spec_l1Cur_buf.f code a s = some (m, rs, ls, g, a', s') ∧ rs.length ≤ 100 ∧ ls.length ≤ 100 ∧ a ≤ a' ∧ a' ≤ a + 1000 := by
  unfold spec_l1Cur_buf.f
  obtain ⟨m, a1, s1, e1, hm, x1, y1⟩ := p_among code hc a s [1, 3, 5, 10, 20, 60, 0, 61] (by simp) h0 (by omega)
  rw [e1]
  simp only [Option.bind_some]
  have hm2 : 0 ≤ m ∧ m ≤ 61 := by
    have : ∀ y ∈ ([1, 3, 5, 10, 20, 60, 0, 61] : List Int), 0 ≤ y ∧ y ≤ 61 := by decide
    exact this m hm
  obtain ⟨g, a2, s2, e2, _, _, _, _, x2, y2⟩ := p_pick code hc a1 s1 5 (by omega) (by omega)
  rw [e2]
  simp only [Option.bind_some]
  rw [wrapS (by omega) (by omega), p_least]
  simp only [Option.bind_some]
  obtain ⟨n, a3, s3, e3, n0, n1, n2, _, x3, y3⟩ := p_pick code hc a2 s2 (min 12 (m + 1)) (by omega) (by omega)
  rw [e3]
  simp only [Option.bind_some]
  obtain ⟨n, rfl⟩ := Int.eq_ofNat_of_zero_le n0
  have hn : n ≤ 12 := by omega
  have key : ∀ (n f : Nat) (rs ls : List Int) (a s : Int), n < f → 0 ≤ a → a + 10 * n ≤ 100000000000 → n ≤ 12 → rs.length + n ≤ 50 → ls.length + n ≤ 50 → ∃ (rs' ls' : List Int) (a' s' : Int), spec_l1Cur_buf.l1 code f (n : Int) a s rs ls = some (a', s', rs', ls') ∧ rs'.length ≤ 50 ∧ ls'.length ≤ 50 ∧ a ≤ a' ∧ a' ≤ a + 10 * n := by
    intro n
    induction n with
    | zero =>
      intro f rs ls a s hf ha ha2 hn hr hl
      obtain ⟨f, rfl⟩ := Nat.exists_eq_succ_of_ne_zero (show f ≠ 0 by omega)
      rw [spec_l1Cur_buf.l1, if_neg (by simp)]
      exact ⟨rs, ls, a, s, rfl, by omega, by omega, by omega, by omega⟩
    | succ n ih =>
      intro f rs ls a s hf ha ha2 hn hr hl
      obtain ⟨f, rfl⟩ := Nat.exists_eq_succ_of_ne_zero (show f ≠ 0 by omega)
      rw [spec_l1Cur_buf.l1, if_pos (by simp <;> omega)]
      obtain ⟨r, a1, s1, e1, _, x1, y1⟩ := p_among code hc a s [97, 98, 97, 99, 12354] (by simp) ha (by omega)
      rw [e1]
      simp only [Option.bind_some]
      rw [app?_at (by simp; omega)]
      simp only [Option.bind_some]
      obtain ⟨l, a2, s2, e2, l0, _, _, l3, x2, y2⟩ := p_pick code hc a1 s1 3 (by omega) (by omega)
      rw [e2]
      simp only [Option.bind_some]
      rw [app?_at (by simp; omega)]
      simp only [Option.bind_some]
      rw [wrapS (n := ((n + 1 : Nat) : Int) - 1) (by omega) (by omega), show ((n + 1 : Nat) : Int) - 1 = (n : Int) by omega]
      obtain ⟨rs', ls', a', s', e', g1, g2, g3, g4⟩ := ih f (rs ++ [r]) (ls ++ [IntKind.i64.wrap (1 + l)]) a2 s2 (by omega) (by omega) (by omega) (by omega) (by simp; omega) (by simp; omega)
      exact ⟨rs', ls', a', s', e', g1, g2, by omega, by omega⟩
  obtain ⟨rs, ls, a4, s4, e4, g1, g2, x4, y4⟩ := key n (((n : Int) - 0).toNat + 2) [] [] a3 s3 (by omega) (by omega) (by omega) hn (by simp; omega) (by simp; omega)
  rw [e4]
  simp only [Option.bind_some]
  obtain ⟨w, a5, s5, e5, _, _, _, _, x5, y5⟩ := p_pick code hc a4 s4 40 (by omega) (by omega)
  rw [e5]
  simp only [Option.bind_some]
  by_cases hw : (w == 0) = true
  · rw [if_pos hw, app?_at (by simp; omega)]
    exact ⟨m, rs, _, g, a5, s5, rfl, by omega, by simp; omega, by omega, by omega⟩
  · rw [if_neg hw]
    by_cases hw1 : (w == 1) = true
    · rw [if_pos hw1]
      obtain ⟨v, a6, s6, e6, _, x6, y6⟩ := p_among code hc a5 s5 [-1, 1000000, 1000001] (by simp) (by omega) (by omega)
      rw [e6]
      exact ⟨m, rs, ls, v, a6, s6, rfl, by omega, by omega, by omega, by omega⟩
    · rw [if_neg hw1]
      exact ⟨m, rs, ls, g, a5, s5, rfl, by omega, by omega, by omega, by omega⟩
theorem p_big (p q : List Int) (hp : p.length ≤ maxN) : laws_big.f p q = some (decide ((p.length : Int) + q.length > 1048576)) := by
  unfold laws_big.f
  unfold maxN at hp
  by_cases h : (p.length : Int) > 1048576
  · rw [if_pos (by simpa using h)]
    simp; omega
  · rw [if_neg (by simpa using h), wrapS (by omega) (by omega)]
    congr 1
    rw [Bool.eq_iff_iff]
    simp; omega
theorem p_numberOf (p : List Int) (hp : p.length ≤ big) (hb : allW (inK .u8) p) : ∃ n : Int, laws_numberOf.f p = some n ∧ 0 ≤ n ∧ n < 1000003 := by
  unfold laws_numberOf.f
  have key : ∀ (k i : Nat) (x : Int), i ≤ p.length → p.length - i < k → 0 ≤ x → x < 1000003 → ∃ n, laws_numberOf.l1 p k x i = some n ∧ 0 ≤ n ∧ n < 1000003 := by
    intro k
    induction k with
    | zero => intro i x _ h; omega
    | succ k ih =>
      intro i x hi hk h0 h1
      rw [laws_numberOf.l1]
      by_cases h : i < p.length
      · have hu : -0 ≤ p[i] ∧ p[i] ≤ 255 := hb.2 _ (List.getElem_mem h)
        rw [if_pos (by simpa using h), rd?_at h]
        simp only [Option.bind_some]
        rw [wrapS (n := 31 * x) (by omega) (by omega), wrapS (n := p[i]) (by omega) (by omega), wrapS (by omega) (by omega)]
        have hr : rem? (31 * x + p[i]) 1000003 = some ((31 * x + p[i]) % 1000003) := by
          unfold rem?
          rw [if_neg (by decide), Int.tmod_eq_emod_of_nonneg (by omega)]
        rw [hr]
        simp only [Option.bind_some]
        rw [wrapN i (by unfold big at hp; omega)]
        exact ih (i + 1) _ h (by omega) (by omega) (by omega)
      · rw [if_neg (by simpa using h)]
        exact ⟨x, rfl, h0, h1⟩
  obtain ⟨n, e, h0, h1⟩ := key (((p.length : Int) - 0).toNat + 2) 0 0 (by omega) (by omega) (by omega) (by omega)
  rw [show ((0 : Nat) : Int) = 0 from rfl] at e
  rw [e]
  exact ⟨n, rfl, h0, h1⟩
theorem p_sameInts (p q : List Int) (hp : p.length ≤ big) : laws_sameInts.f p q = some (decide (p = q)) :=
  eq_all p q hp (laws_sameInts.l1 p q) _ (by omega) fun _ _ _ => rfl
def takeOk (m : Int) (rs ls : List Int) (g n : Int) : Bool := (okBuf m rs ls g && (decide (0 ≤ n) && decide (n ≤ (rs.length : Int)))) && okBuf m (rs.drop n.toNat) (ls.drop n.toNat) (addAll g (ls.take n.toNat))
def takeR (m : Int) (rs ls : List Int) (g n : Int) : Int × List Int × List Int × Int × List Int × Bool := if takeOk m rs ls g n then (m, rs.drop n.toNat, ls.drop n.toNat, addAll g (ls.take n.toNat), rs.take n.toNat, true) else (0, [], [], 0, [], false)
theorem takeR_len (m : Int) (rs ls : List Int) (g n : Int) (h1 : rs.length ≤ 100) (h2 : ls.length ≤ 100) : (takeR m rs ls g n).2.1.length ≤ 200 ∧ (takeR m rs ls g n).2.2.1.length ≤ 200 ∧ (takeR m rs ls g n).2.2.2.2.1.length ≤ 200 := by
  unfold takeR
  split
  · refine ⟨?_, ?_, ?_⟩ <;> (simp; omega)
  · simp
theorem p_TakeBufX (m : Int) (rs ls : List Int) (g n : Int) (hr : rs.length ≤ big) (hl : ls.length ≤ big) : impl_TakeBuf.f m rs ls g n = some (takeR m rs ls g n) ∧ spec_TakeBuf.f m rs ls g n = some (takeR m rs ls g n) := by
  unfold impl_TakeBuf.f spec_TakeBuf.f takeR takeOk
  simp only [p_implBuf m rs ls g hr hl, p_specBuf m rs ls g hr hl, Option.bind_some, p_inRange, p_l1In]
  cases hs : okBuf m rs ls g with
  | false => exact ⟨rfl, rfl⟩
  | true =>
    simp only [Bool.not_true, Bool.false_eq_true, if_false]
    cases hn : (decide (0 ≤ n) && decide (n ≤ (rs.length : Int))) with
    | false => exact ⟨rfl, rfl⟩
    | true =>
      simp only [Bool.not_true, Bool.false_eq_true, if_false, Option.bind_some]
      simp only [okBuf, Bool.and_eq_true, decide_eq_true_eq, beq_iff_eq] at hs hn
      obtain ⟨k, rfl⟩ := Int.eq_ofNat_of_zero_le hn.1
      have hl2 : ls.length = rs.length := by omega
      have hk : k ≤ rs.length := by omega
      unfold impl_Buf_clone.f
      rw [p_clone rs hr, p_clone ls hl]
      simp only [Option.bind_some]
      rw [p_take m rs ls g k hk (by omega) hr hl, p_drop m rs ls g k hk (by omega) hr hl]
      simp only [Option.bind_some]
      rw [p_implBuf _ _ _ _ (by simp; omega) (by simp; omega), p_specBuf _ _ _ _ (by simp; omega) (by simp; omega)]
      simp only [Option.bind_some, Int.toNat_natCast, Bool.and_self, Bool.true_and]
      cases okBuf m (rs.drop k) (ls.drop k) (addAll g (ls.take k)) <;> exact ⟨by first | rfl | trivial, by first | rfl | trivial⟩
theorem p_takeDraw (code : List Int) (hc : allW (inK .u8) code) : ∃ (m : Int) (rs ls : List Int) (g n : Int), spec_DrawTakeBuf.f code = some (m, rs, ls, g, n) ∧ rs.length ≤ 100 ∧ ls.length ≤ 100 := by
  unfold spec_DrawTakeBuf.f
  obtain ⟨m, rs, ls, g, a1, s1, e1, l1, l2, x1, y1⟩ := p_buf code hc 0 0 (by omega) (by omega)
  rw [e1]
  simp only [Option.bind_some]
  obtain ⟨n, a2, s2, e2, _, _, _, _, x2, y2⟩ := p_pick code hc a1 s1 (IntKind.i64.wrap ((rs.length : Int) + 2)) (by omega) (by omega)
  rw [e2]
  simp only [Option.bind_some]
  obtain ⟨k, a3, s3, e3, _, _, _, _, x3, y3⟩ := p_pick code hc a2 s2 9 (by omega) (by omega)
  rw [e3]
  simp only [Option.bind_some]
  have : ∃ z, quo? .i64 k 8 = some z := ⟨_, by unfold quo?; rw [if_neg (by decide)]⟩
  obtain ⟨z, hz⟩ := this
  rw [hz]
  exact ⟨m, rs, ls, g, _, rfl, l1, l2⟩
theorem bindGo {X : Option (Lo Unit Bool)} (h : X = some (.go ())) : (X.bind fun (o : Lo Unit Bool) => match o with | .go () => some true | .ret z => some z) = some true := by rw [h]; rfl
theorem p_sameBuf (m : Int) (rs ls : List Int) (g : Int) (hr : rs.length ≤ big) (hl : ls.length ≤ big) : laws_sameBuf.f m rs ls g m rs ls g = some true := by
  unfold laws_sameBuf.f
  rw [p_sameInts rs rs hr, p_sameInts ls ls hl]
  simp
theorem p_sum (x : List Int) (hx : x.length ≤ big) : laws_sum.f x = some (addAll 0 x) := by
  unfold laws_sum.f
  have := run_loop x hx (fun s u K => K (IntKind.i64.wrap (s + u))) (fun s => some s) (laws_sum.l1 x) (fun _ _ _ => rfl) (((x.length : Int) - 0).toNat + 2) 0 0 (by omega) (by omega)
  rw [show ((0 : Nat) : Int) = 0 from rfl] at this
  rw [this, List.drop_zero, runS_fold (fun s u => IntKind.i64.wrap (s + u))]
  rfl
theorem p_specByteL (x : List Int) (hx : x.length ≤ big) (g : Int) : spec_l10Byte.l1 x (((x.length : Int) - 0).toNat + 2) g 0 = some (addAll g x) := by
  have := run_loop x hx (fun s u K => K (IntKind.i64.wrap (s + u))) (fun s => some s) (spec_l10Byte.l1 x) (fun _ _ _ => rfl) (((x.length : Int) - 0).toNat + 2) 0 g (by omega) (by omega)
  rw [show ((0 : Nat) : Int) = 0 from rfl] at this
  rw [this, List.drop_zero, runS_fold (fun s u => IntKind.i64.wrap (s + u))]
  rfl
theorem p_ByteOf (m : Int) (rs ls : List Int) (g n : Int) (hr : rs.length ≤ big) (hl : ls.length ≤ big) : impl_ByteOf.f m rs ls g n = some (if okBuf m rs ls g && (decide (0 ≤ n) && decide (n ≤ (rs.length : Int))) then (addAll g (ls.take n.toNat), true) else (0, false)) ∧ spec_ByteOf.f m rs ls g n = some (if okBuf m rs ls g && (decide (0 ≤ n) && decide (n ≤ (rs.length : Int))) then (addAll g (ls.take n.toNat), true) else (0, false)) := by
  unfold impl_ByteOf.f spec_ByteOf.f
  simp only [p_implBuf m rs ls g hr hl, p_specBuf m rs ls g hr hl, Option.bind_some, p_inRange, p_l1In]
  cases hs : okBuf m rs ls g with
  | false => exact ⟨rfl, rfl⟩
  | true =>
    cases hn : (decide (0 ≤ n) && decide (n ≤ (rs.length : Int))) with
    | false => exact ⟨rfl, rfl⟩
    | true =>
      simp only [okBuf, Bool.and_eq_true, decide_eq_true_eq, beq_iff_eq] at hs hn
      obtain ⟨k, rfl⟩ := Int.eq_ofNat_of_zero_le hn.1
      have hk : k ≤ ls.length := by omega
      unfold impl_Buf_bytes.f spec_l10Byte.f
      rw [cut0 hk]
      have hb : (ls.take k).length ≤ big := by simp; omega
      simp only [Bool.not_true, Bool.false_eq_true, if_false, if_true, Option.bind_some, Bool.and_self, p_bytes _ hb, p_specByteL _ hb, Int.toNat_natCast, and_self]
theorem p_putDraw (code : List Int) (hc : allW (inK .u8) code) : ∃ (m : Int) (rs ls : List Int) (g : Int) (p q : List Int), spec_DrawPutBuf.f code = some (m, rs, ls, g, p, q) ∧ rs.length ≤ 100 ∧ ls.length ≤ 100 ∧ p.length ≤ 100 ∧ q.length ≤ 100 := by
  unfold spec_DrawPutBuf.f
  obtain ⟨m, rs, ls, g, a1, s1, e1, l1, l2, x1, y1⟩ := p_buf code hc 0 0 (by omega) (by omega)
  rw [e1]
  simp only [Option.bind_some]
  obtain ⟨n, a2, s2, e2, n0, n1, _, _, x2, y2⟩ := p_pick code hc a1 s1 8 (by omega) (by omega)
  rw [e2]
  simp only [Option.bind_some]
  obtain ⟨n, rfl⟩ := Int.eq_ofNat_of_zero_le n0
  have hn : n < 8 := by have := n1 (by omega); omega
  have key : ∀ (n f : Nat) (rs ls : List Int) (a s : Int), n < f → 0 ≤ a → a + 10 * n ≤ 100000000000 → n ≤ 12 → rs.length + n ≤ 50 → ls.length + n ≤ 50 → ∃ (rs' ls' : List Int) (a' s' : Int), spec_DrawPutBuf.l1 code f rs ls (n : Int) a s = some (rs', ls', a', s') ∧ rs'.length ≤ 50 ∧ ls'.length ≤ 50 ∧ a ≤ a' ∧ a' ≤ a + 10 * n := by
    intro n
    induction n with
    | zero =>
      intro f rs ls a s hf ha ha2 hn hr hl
      obtain ⟨f, rfl⟩ := Nat.exists_eq_succ_of_ne_zero (show f ≠ 0 by omega)
      rw [spec_DrawPutBuf.l1, if_neg (by simp)]
      exact ⟨rs, ls, a, s, rfl, by omega, by omega, by omega, by omega⟩
    | succ n ih =>
      intro f rs ls a s hf ha ha2 hn hr hl
      obtain ⟨f, rfl⟩ := Nat.exists_eq_succ_of_ne_zero (show f ≠ 0 by omega)
      rw [spec_DrawPutBuf.l1, if_pos (by simp <;> omega)]
      obtain ⟨r, a1, s1, e1, _, x1, y1⟩ := p_among code hc a s [97, 98, 12354] (by simp) ha (by omega)
      rw [e1]
      simp only [Option.bind_some]
      rw [app?_at (by simp; omega)]
      simp only [Option.bind_some]
      obtain ⟨l, a2, s2, e2, l0, _, _, l3, x2, y2⟩ := p_pick code hc a1 s1 4 (by omega) (by omega)
      rw [e2]
      simp only [Option.bind_some]
      rw [app?_at (by simp; omega)]
      simp only [Option.bind_some]
      rw [wrapS (n := ((n + 1 : Nat) : Int) - 1) (by omega) (by omega), show ((n + 1 : Nat) : Int) - 1 = (n : Int) by omega]
      obtain ⟨rs', ls', a', s', e', g1, g2, g3, g4⟩ := ih f (rs ++ [r]) (ls ++ [IntKind.i64.wrap (1 + l)]) a2 s2 (by omega) (by omega) (by omega) (by omega) (by simp; omega) (by simp; omega)
      exact ⟨rs', ls', a', s', e', g1, g2, by omega, by omega⟩
  obtain ⟨p, q, a4, s4, e4, g1, g2, x4, y4⟩ := key n (((n : Int) - 0).toNat + 2) [] [] a2 s2 (by omega) (by omega) (by omega) (by omega) (by simp; omega) (by simp; omega)
  rw [e4]
  simp only [Option.bind_some]
  by_cases hq : 0 < q.length
  · rw [if_pos (by simpa using hq)]
    obtain ⟨w, a5, s5, e5, x5, y5⟩ := p_one code hc a4 s4 30 (by omega) (by omega)
    rw [e5]
    simp only [Option.bind_some]
    cases w with
    | true =>
      have := cut?_at (xs := q) (a := 1) (b := q.length) (by omega) (Nat.le_refl _)
      rw [show ((1 : Nat) : Int) = 1 from rfl] at this
      rw [if_pos rfl, this]
      exact ⟨m, rs, ls, g, p, _, rfl, l1, l2, by omega, by simp; omega⟩
    | false => exact ⟨m, rs, ls, g, p, q, rfl, l1, l2, by omega, by omega⟩
  · rw [if_neg (by simpa using hq)]
    exact ⟨m, rs, ls, g, p, q, rfl, l1, l2, by omega, by omega⟩
theorem putR_len (m : Int) (rs ls : List Int) (g : Int) (p q : List Int) (h1 : rs.length ≤ 100) (h2 : ls.length ≤ 100) (h3 : p.length ≤ 100) (h4 : q.length ≤ 100) : (putR m rs ls g p q).2.1.length ≤ 200 ∧ (putR m rs ls g p q).2.2.1.length ≤ 200 ∧ (putR m rs ls g p q).2.2.2.2.1.length ≤ 200 := by
  unfold putR
  split
  · refine ⟨?_, ?_, ?_⟩ <;> (simp; omega)
  · simp
theorem put_sums {m : Int} {rs ls : List Int} {g : Int} {p q : List Int} (h : putOk m rs ls g p q = true) : (putR m rs ls g p q).2.2.2.1 + addAll 0 (putR m rs ls g p q).2.2.1 = g + addAll 0 ls + addAll 0 q ∧ ((putR m rs ls g p q).2.1.length : Int) ≤ (putR m rs ls g p q).1 ∧ 0 ≤ g ∧ g ≤ 1000000 ∧ 0 ≤ addAll 0 ls ∧ addAll 0 ls ≤ 100000000 ∧ 0 ≤ addAll 0 q ∧ addAll 0 q ≤ 100000000 ∧ 0 ≤ (putR m rs ls g p q).2.2.2.1 ∧ (putR m rs ls g p q).2.2.2.1 ≤ 1000000 ∧ 0 ≤ addAll 0 (putR m rs ls g p q).2.2.1 ∧ addAll 0 (putR m rs ls g p q).2.2.1 ≤ 100000000 := by
  unfold putR
  rw [if_pos h]
  unfold putOk at h
  simp only [Bool.and_eq_true, decide_eq_true_eq] at h
  obtain ⟨⟨⟨⟨⟨h1, h2⟩, h3⟩, h4⟩, h5⟩, h6⟩ := h
  simp only [okBuf, Bool.and_eq_true, decide_eq_true_eq, beq_iff_eq] at h1 h6
  obtain ⟨⟨⟨⟨⟨a1, a2⟩, a3⟩, a4⟩, a5⟩, a6⟩ := h1
  obtain ⟨⟨⟨⟨⟨c1, c2⟩, c3⟩, c4⟩, c5⟩, c6⟩ := h6
  have hq4 : (ls ++ q).all okLong = true := by rw [List.all_append, a5, h4]; rfl
  generalize over m (rs ++ p) = d at *
  have hl : ls.length ≤ 60 := by omega
  have hq : q.length ≤ 1000 := by omega
  have s1 := addAll_sum ls 0 a5 (by omega) (by omega)
  have s2 := addAll_sum q 0 h4 (by omega) (by omega)
  have s3 := addAll_sum ((ls ++ q).take d) g (all_take hq4 _) (by omega) (by simp; omega)
  have s4 := addAll_sum ((ls ++ q).drop d) 0 (all_drop hq4 _) (by omega) (by simp; omega)
  have s5 : lsum (ls ++ q) = lsum ((ls ++ q).take d) + lsum ((ls ++ q).drop d) := by rw [← lsum_app, List.take_append_drop]
  have s6 := lsum_app ls q
  have b1 := lsum_bd ls a5
  have b2 := lsum_bd q h4
  have b3 := lsum_bd _ (all_drop hq4 d)
  have b4 : ((ls ++ q).drop d).length ≤ 1060 := by simp; omega
  dsimp only
  rw [s3] at c6
  rw [s1, s2, s3, s4]
  refine ⟨by omega, c2, by omega, by omega, by omega, by omega, by omega, by omega, c6.1, c6.2, by omega, by omega⟩
theorem law_Buffer (p q : List Int) (hp : allW (inK .u8) p) (hq : allW (inK .u8) q) : laws_FnBuffer.f p q = some true := by
  unfold laws_FnBuffer.f
  rw [p_big p q hp.1]
  simp only [Option.bind_some]
  by_cases hb : (p.length : Int) + q.length > 1048576
  · rw [if_pos (by simpa using hb)]
  rw [if_neg (by simpa using hb)]
  have hqb : q.length ≤ big := by unfold big; omega
  obtain ⟨m, rs, ls, g, x, y, e1, l1, l2, l3, l4⟩ := p_putDraw p hp
  rw [e1]
  simp only [Option.bind_some]
  have b1 : rs.length ≤ big := by unfold big; omega
  have b2 : ls.length ≤ big := by unfold big; omega
  have b3 : x.length ≤ big := by unfold big; omega
  have b4 : y.length ≤ big := by unfold big; omega
  obtain ⟨f1, f2⟩ := p_PutBufX m rs ls g x y b1 b2 b3 b4
  obtain ⟨r1, r2, r3⟩ := putR_len m rs ls g x y l1 l2 l3 l4
  rw [f1, f2]
  simp only [Option.bind_some]
  rw [p_sameBuf _ _ _ _ (by unfold big; omega) (by unfold big; omega), p_sameInts _ _ (by unfold big; omega), p_implBuf m rs ls g b1 b2, p_specBuf m rs ls g b1 b2]
  simp only [Option.bind_some, bne_self_eq_false, Bool.false_eq_true, if_false, Bool.not_true, decide_true]
  -- the second half
  have key2 : ((spec_DrawTakeBuf.f q).bind fun u284 => (impl_TakeBuf.f u284.1 u284.2.1 u284.2.2.1 u284.2.2.2.1 u284.2.2.2.2).bind fun u290 => (spec_TakeBuf.f u284.1 u284.2.1 u284.2.2.1 u284.2.2.2.1 u284.2.2.2.2).bind fun u297 => (impl_ByteOf.f u284.1 u284.2.1 u284.2.2.1 u284.2.2.2.1 u284.2.2.2.2).bind fun u304 => (spec_ByteOf.f u284.1 u284.2.1 u284.2.2.1 u284.2.2.2.1 u284.2.2.2.2).bind fun u306 => (if (u290.2.2.2.2.2 != u297.2.2.2.2.2) = true then (some true) else ((laws_sameBuf.f u290.1 u290.2.1 u290.2.2.1 u290.2.2.2.1 u297.1 u297.2.1 u297.2.2.1 u297.2.2.2.1).bind fun u335 => if (!u335) = true then (some true) else ((laws_sameInts.f u290.2.2.2.2.1 u297.2.2.2.2.1).bind fun u337 => if (!u337) = true then (some true) else (if (u304.2 != u306.2) = true then (some true) else (some (u304.1 != u306.1)))))).bind fun (o : Bool) => match o with | x333 => (if x333 = true then (some false) else (if (!u290.2.2.2.2.2) = true then (some true) else (if u304.2 = true then (if (u290.2.2.2.1 == u304.1) = true then (some ((u290.2.2.2.2.1.length : Int) == u284.2.2.2.2)) else (some false)) else (some false))))) = some true := by
    obtain ⟨m, rs, ls, g, n, e1, l1, l2⟩ := p_takeDraw q hq
    rw [e1]
    simp only [Option.bind_some]
    have b1 : rs.length ≤ big := by unfold big; omega
    have b2 : ls.length ≤ big := by unfold big; omega
    obtain ⟨t1, t2⟩ := p_TakeBufX m rs ls g n b1 b2
    obtain ⟨v1, v2⟩ := p_ByteOf m rs ls g n b1 b2
    rw [t1, t2, v1, v2]
    simp only [Option.bind_some]
    have tl := takeR_len m rs ls g n l1 l2
    rw [p_sameBuf _ _ _ _ (by unfold big; omega) (by unfold big; omega), p_sameInts _ _ (by unfold big; omega)]
    simp only [Option.bind_some, bne_self_eq_false, Bool.false_eq_true, if_false, Bool.not_true, decide_true]
    unfold takeR
    cases h : takeOk m rs ls g n with
    | false => simp
    | true =>
      unfold takeOk at h
      rw [Bool.and_eq_true] at h
      rw [h.1]
      simp only [if_true, Bool.not_true, Bool.false_eq_true, if_false, beq_self_eq_true]
      have h2 := h.1
      rw [Bool.and_eq_true] at h2
      have h3 := h2.2
      simp only [Bool.and_eq_true, decide_eq_true_eq] at h3
      simp; omega
  rw [key2]
  -- the first half
  refine bindGo ?_
  cases hok : putOk m rs ls g x y with
  | false =>
    have : (putR m rs ls g x y).2.2.2.2.2 = false := by unfold putR; rw [if_neg (by rw [hok]; simp)]
    rw [this]; rfl
  | true =>
    have h5 : (putR m rs ls g x y).2.2.2.2.2 = true := by unfold putR; rw [if_pos hok]
    have h6 : (putR m rs ls g x y).1 = m := by unfold putR; rw [if_pos hok]
    rw [if_pos h5]
    obtain ⟨n, en, n0, n1⟩ := p_numberOf q hqb hq
    rw [en]
    simp only [Option.bind_some]
    rw [wrapS (n := (x.length : Int) + 1) (by omega) (by omega)]
    have hr : rem? n ((x.length : Int) + 1) = some (n % ((x.length : Int) + 1)) := by
      unfold rem?
      rw [if_neg (by omega), Int.tmod_eq_emod_of_nonneg n0]
    rw [hr]
    simp only [Option.bind_some]
    have hk0 := Int.emod_nonneg n (show ((x.length : Int) + 1) ≠ 0 by omega)
    have hk1 := Int.emod_lt_of_pos n (show 0 < ((x.length : Int) + 1) by omega)
    obtain ⟨k, hk⟩ := Int.eq_ofNat_of_zero_le hk0
    rw [hk] at hk1 ⊢
    have hkx : k ≤ x.length := by omega
    have hxy : x.length = y.length := by
      have h := hok
      unfold putOk at h
      simp only [Bool.and_eq_true, decide_eq_true_eq] at h
      exact h.1.1.1.1.2
    rw [cut0 hkx, cut0 (show k ≤ y.length by omega)]
    simp only [Option.bind_some]
    obtain ⟨o1, o2⟩ := put_split hok k hkx
    have hR1 : putR m rs ls g (x.take k) (y.take k) = (m, (putR m rs ls g (x.take k) (y.take k)).2.1, (putR m rs ls g (x.take k) (y.take k)).2.2.1, (putR m rs ls g (x.take k) (y.take k)).2.2.2.1, (putR m rs ls g (x.take k) (y.take k)).2.2.2.2.1, true) := by unfold putR; rw [if_pos o1]
    obtain ⟨c1, c2, c3⟩ := putR_len m rs ls g (x.take k) (y.take k) l1 l2 (by simp; omega) (by simp; omega)
    obtain ⟨o3, o4, o5⟩ := o2 _ _ _ _ hR1
    rw [(p_PutBufX m rs ls g (x.take k) (y.take k) b1 b2 (by simp; omega) (by simp; omega)).1]
    simp only [Option.bind_some]
    generalize putR m rs ls g (x.take k) (y.take k) = R1 at *
    obtain ⟨z1, z2, z3, z4, z5, z6⟩ := R1
    simp only [Prod.mk.injEq] at hR1
    obtain ⟨rfl, _, _, _, _, rfl⟩ := hR1
    dsimp only at *
    rw [cutE hkx, cutE (show k ≤ y.length by omega)]
    simp only [Option.bind_some]
    rw [(p_PutBufX _ z2 z3 z4 (x.drop k) (y.drop k) (by unfold big; omega) (by unfold big; omega) (by simp; omega) (by simp; omega)).1]
    simp only [Option.bind_some]
    have hl5 : (putR z1 z2 z3 z4 (x.drop k) (y.drop k)).2.2.2.2.1.length ≤ 400 := by
      have := congrArg List.length o5
      rw [List.length_append] at this
      omega
    generalize putR z1 z2 z3 z4 (x.drop k) (y.drop k) = R2 at *
    obtain ⟨w1, w2, w3, w4, w5, w6⟩ := R2
    simp only [Prod.mk.injEq] at o4
    obtain ⟨rfl, rfl, rfl, rfl, _, rfl⟩ := o4
    dsimp only at *
    simp only [Bool.not_true, Bool.false_eq_true, if_false]
    rw [h6, p_sameBuf _ _ _ _ (by unfold big; omega) (by unfold big; omega)]
    simp only [Option.bind_some, Bool.not_true, Bool.false_eq_true, if_false]
    rw [app?_at (by omega), o5]
    simp only [Option.bind_some]
    rw [p_sameInts _ _ (by unfold big; omega)]
    simp only [Option.bind_some, decide_true, Bool.not_true, Bool.false_eq_true, if_false]
    rw [p_sum _ (by unfold big; omega), p_sum ls b2, p_sum y b4]
    simp only [Option.bind_some]
    have S := put_sums hok
    rw [h6] at S
    rw [wrapS (by omega) (by omega), wrapS (n := g + addAll 0 ls) (by omega) (by omega), wrapS (by omega) (by omega), S.1]
    simp only [bne_self_eq_false, Bool.false_eq_true, if_false, Option.bind_some]
    rw [if_neg (by simp; omega)]
end Go.Proofs.Ytkieinlcpkpcjaa
