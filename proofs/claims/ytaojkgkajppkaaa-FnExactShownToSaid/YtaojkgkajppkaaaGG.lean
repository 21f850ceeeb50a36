/- A logic of what is known of memory, over the kit's weakest preconditions: one part. No conditions: lemmas. -/
import Derived.Test.YtaojkgkajppkaaaGF
set_option linter.unusedVariables false
set_option linter.unusedSimpArgs false
namespace Go.Proofs.GL
open Go
section
variable {α β : Type} {sb s0 s : St} {F0 : Fp} {cs : List Ck}
variable {P : Program} {ro : Bool} {Kl : List Value → St → Prop} {l : List Value} {d : Option Tmp} {ty : TypeId} {pos : String} {af : Array Edge} {gd : Option (Nat × Bool)}
theorem o_eqN {xt yt e : TypeId} {x y : Operand} {A : Option Addr} {n c n' c' : Nat} (hx : evL l x = .slice A n c) (hy : evL l y = .slice none n' c') (hu : P.underlying xt = some (.slice e)) (h : Kl (y4 l d (.bool A.isNone)) s) : HO P ro ⟨d, .binOp .eql xt x y yt, ty, pos, af, gd⟩ l s Kl := by
  unfold HO execOp
  simp only [hx, hy, eqGuard, binOp, ye, GOk_eqN hu, yj]
  exact h
def shrK? (k : IntKind) (x y : Int) : Option Int := if 0 ≤ y then some (x.fdiv (2 ^ (min y.toNat k.bits))) else none
theorem o_shrK {k : IntKind} {xt yt : TypeId} {x y : Operand} {yk : IntKind} {n m q : Int} (hx : evL l x = .int k n) (hy : evL l y = .int yk m) (hq : shrK? k n m = some q) (h : Kl (y4 l d (.int k q)) s) : HO P ro ⟨d, .binOp .shr xt x y yt, ty, pos, af, gd⟩ l s Kl := by
  unfold shrK? at hq
  split at hq
  · rename_i h0
    obtain rfl := Option.some.inj hq
    unfold HO execOp
    simp only [hx, hy, eqGuard, binOp, Op.shift, ye, yj, if_neg (show ¬ m < 0 by omega)]
    exact h
  · cases hq
def cpy (xs : List α) (lo n : Nat) (ys : List α) : List α := xs.take lo ++ ys.take (min ys.length n) ++ xs.drop (lo + min ys.length n)
theorem cut?_room {xs ys : List α} {L H : Int} (h : cut? xs L H = some ys) : L.toNat + ys.length ≤ xs.length := by
  obtain ⟨⟨h0, h1, h2⟩, rfl⟩ := cut?_some h
  simp
  omega
theorem cpy_len {xs ys zs : List α} {lo n : Nat} (hl : lo + n ≤ xs.length) (h : some (cpy xs lo n ys) = some zs) : zs.length = xs.length := by
  obtain rfl := Option.some.inj h
  unfold cpy
  simp
  omega
theorem GOk_first' {K : Kd α} {O : Ow K} {FY A c xs} (h : Src O sb s FY A c xs) {KU : Array Value → St → Prop} (n L c' : Nat) (hn : n = xs.length) (hk : ∀ vs : List Value, vs.length = xs.length * K.sz → (∀ v ∈ vs, isCell v = true) → els O sb s FY vs 0 xs → KU vs.toArray s) :
    GOk P ro (Builtin.firstCells K.sz n (.slice A L c')) s KU := by
  subst hn
  obtain ⟨_, vs, h1, h2, h3, h4⟩ := h
  by_cases hx : xs = []
  · subst hx
    obtain rfl : vs = [] := List.eq_nil_of_length_eq_zero (by simpa using h1)
    cases A with
    | none => exact hk [] (by simp) (by simp) h4
    | some a =>
      unfold Builtin.firstCells
      refine GOk_loadCells (cs := []) (by simp) (by simp) (hk [] (by simp) (by simp) h4)
  · obtain ⟨b, o, rfl, h5⟩ := h3 hx
    unfold Builtin.firstCells
    exact GOk_loadCells h1.symm h5 (hk vs h1 h2 h4)
theorem o_copyF {K : Kd α} {O : Ow K} [O.Fl] {x y : Operand} {t t2 e : TypeId} {z : Value} {by_ : Nat} {A B D : Option Addr} {c c2 dc lo n : Nat} {xs ys zs : List α} (hH : Hp sb s0 F0 s cs) (i : Nat) (hl : Nat.blt i cs.length = true) (hk : yg cs i = Ck.ol O e A c xs)
    (hx : evL l x = .slice D n dc) (hy : evL l y = .slice B ys.length c2) (hu : P.underlying t = some (.slice e)) (ht : TI P e z K.sz by_) (hD : D = A ∧ lo = 0 ∨ D = cutA A c lo K.sz) (hln : lo + n ≤ xs.length) (hr : Rd K s B c2 ys) (hz : some (cpy xs lo n ys) = some zs)
    (h : ∀ s', Hp sb s0 F0 s' (yl cs i (Ck.ol O e A c zs)) → Kl (y4 l d (.int .i64 ((min ys.length n : Nat) : Int))) s') : HO P false ⟨d, .call { callee := .builtin .copy, args := #[x, y], argTypes := #[t, t2] }, ty, pos, af, gd⟩ l s Kl := by
  obtain rfl := Option.some.inj hz
  obtain ⟨Fi, g1, g2, g3⟩ := hH.upd i (Nat.le_of_ble_eq_true hl)
  rw [hk] at g1
  unfold HO execOp
  simp only [resolve, ye, yj, invoke, builtin, Builtin.copy_]
  simp only [List.map_toArray, List.map_cons, List.map_nil, hx, hy, List.getElem?_toArray, List.getElem?_cons_zero, List.getElem?_cons_succ, ye, yq hu, yj, GOk_sizeOf ht, Builtin.lenOf]
  have hmin : Nat.min ys.length n = min ys.length n := rfl
  rw [hmin]
  generalize hm : min ys.length n = m
  have hm1 : m ≤ ys.length := by omega
  have hm2 : m ≤ n := by omega
  have hr2 : Rd K s B c2 (ys.take m) := ⟨by simp; have := hr.1; omega, hr.2.1, fun hne => by
    obtain ⟨b, o, hB, hc⟩ := hr.2.2 (fun e => by subst e; simp at hne)
    refine ⟨b, o, hB, fun j x hj => hc j x ?_⟩
    rw [List.getElem?_take] at hj
    split at hj
    · exact hj
    · cases hj⟩
  refine GOk_first' (Src.flat (O := O) (sb := sb) hr2) m _ _ (by simp; omega) fun vs h1 h2 h3 => ?_
  have hlen : (ys.take m).length = m := by simp; omega
  rw [hlen] at h1
  have hcp : cpy xs lo n ys = xs.take lo ++ ys.take m ++ xs.drop (lo + m) := by unfold cpy; rw [hm]
  rw [hcp, hm] at h
  have hzl : (xs.take lo ++ ys.take m ++ xs.drop (lo + m)).length = xs.length := by simp; omega
  by_cases hm0 : m = 0
  · subst hm0
    obtain rfl : vs = [] := List.eq_nil_of_length_eq_zero (by simpa using h1)
    have hsame : xs.take lo ++ ys.take 0 ++ xs.drop (lo + 0) = xs := by simp
    rw [hsame] at h
    have := h s (g3 s _ Fi (Fr.refl _ _) (fun _ h => .inl h) g1)
    cases D with
    | none => simp only [yj]; exact this
    | some a =>
      simp only [ye]
      unfold storeCells
      simp only [yj]
      exact this
  rcases g1 with ⟨_, hxn⟩ | ⟨b, o, y', rfl, a2, a3, a4, a5, a6, a7, a8, FE, b1, b2, b3⟩
  · subst hxn; simp at hln; omega
  have hDe : D = some ⟨b, o + lo * K.sz, none⟩ := by
    rcases hD with ⟨h1, h2⟩ | h1
    · subst h2; rw [h1]; simp
    · rw [h1]
      unfold cutA
      rw [if_pos (by omega)]
      simp [addp]
  subst hDe
  simp only [ye, List.toList_toArray]
  have hmul : lo * K.sz + m * K.sz ≤ xs.length * K.sz := by rw [← Nat.add_mul]; exact Nat.mul_le_mul_right _ (by omega)
  have hcl := Nat.mul_le_mul_right K.sz a6
  have hle : o + lo * K.sz ≤ y'.cs.length := by omega
  refine GOk_storeC (KU := fun _ s' => GOk P false (pure (goInt m) : Sem Value) s' _) vs y' 0 s a2 (g2 _ a4).g (by omega) (by rw [h1]; omega) h2 ?_
  simp only [yj, Nat.add_zero]
  have hE := Fr.setO (s := s) (b := b) { y' with cs := spl y'.cs (o + lo * K.sz) vs }
  refine h _ (g3 _ _ Fi (hE.weak fun q hq => hq ▸ a4) (fun _ h => .inl h) (.inr ⟨b, o, { y' with cs := spl y'.cs (o + lo * K.sz) vs }, rfl, by simp [St.setO], a3, a4, a5, by rw [hzl]; exact a6, a7, ?_, fun j => if lo ≤ j ∧ j < lo + m then no else FE j, fun j w hj => ?_, fun j q hjq b hb hb' => ?_, fun j q hq => ?_⟩))
  · show _ ≤ (spl _ _ _).length
    rw [spl_len hle, hzl]; omega
  · show O.own sb _ (if lo ≤ j ∧ j < lo + m then no else FE j) (((spl _ _ _).drop _).take _) w
    by_cases hj1 : j < lo
    · rw [List.append_assoc, List.getElem?_append_left (by simp; omega), List.getElem?_take, if_pos hj1] at hj
      rw [if_neg (by omega), spl_part hle]
      · exact O.fr (b1 j w hj) hE.toEqo fun q hq => (b3 j q hq).2
      · left
        have : j * K.sz + K.sz ≤ lo * K.sz := by rw [← Nat.succ_mul]; exact Nat.mul_le_mul_right _ hj1
        omega
    · rw [List.append_assoc, List.getElem?_append_right (by simp; omega)] at hj
      have hl0 : (xs.take lo).length = lo := by simp; omega
      rw [hl0] at hj
      by_cases hj2 : j < lo + m
      · rw [List.getElem?_append_left (by omega)] at hj
        rw [if_pos (by omega)]
        have e1 : o + j * K.sz = o + lo * K.sz + (j - lo) * K.sz := by rw [Nat.add_assoc, ← Nat.add_mul]; congr 2; omega
        have : (j - lo) * K.sz + K.sz ≤ m * K.sz := by rw [← Nat.succ_mul]; exact Nat.mul_le_mul_right _ (by omega)
        rw [e1, spl_at hle _ _ (by omega)]
        have hk := els.rep h3 hH.bs (j - lo) w hj
        rw [Nat.zero_add] at hk
        have := Ow.Fl.fl (O := O) (sb := sb) hk
        exact O.fr this hE.toEqo fun _ h => h.elim
      · rw [List.getElem?_append_right (by omega), hlen, List.getElem?_drop] at hj
        rw [if_neg (by omega), spl_part hle]
        · have e2 : lo + m + (j - lo - m) = j := by omega
          rw [e2] at hj
          exact O.fr (b1 j w hj) hE.toEqo fun q hq => (b3 j q hq).2
        · right
          rw [h1]
          have : (lo + m) * K.sz ≤ j * K.sz := Nat.mul_le_mul_right _ (by omega)
          rw [Nat.add_mul] at this
          omega
  · try dsimp only at hb
    try dsimp only at hb'
    split at hb
    · exact hb.elim
    · split at hb'
      · exact hb'.elim
      · exact b2 j q hjq b hb hb'
  · try dsimp only at hq
    split at hq
    · exact hq.elim
    · exact b3 j q hq
end
end Go.Proofs.GL
namespace Go.Proofs.GL
open Go
theorem sliceLen {A : Option Addr} {n m c : Nat} (h : m = n) : Value.slice A n c = Value.slice A m c := by rw [h]
end Go.Proofs.GL

