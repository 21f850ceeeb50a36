/- A logic of what is known of memory, over the kit's weakest preconditions: one part. No conditions: lemmas. -/
import Derived.Test.YtbeolahmnoeicaaGreatGJ
set_option autoImplicit false
set_option relaxedAutoImplicit false
set_option linter.unusedVariables false
set_option linter.unusedSimpArgs false
namespace Go.Proofs.GL
open Go
section
variable {α : Type} {P : Program} {sb s0 s : St} {F0 : Fp} {cs : List Ck} {Kl : List Value → St → Prop} {l : List Value} {d : Option Tmp} {ty : TypeId} {pos : String} {af : Array Edge} {gd : Option (Nat × Bool)}
theorem flatten_rep {w : Nat} {v : List Value} (hv : v.length = w) (n i : Nat) (hi : i < n) : (((List.replicate n v).flatten).drop (i * w)).take w = v := by
 obtain ⟨j, rfl⟩ := Nat.exists_eq_add_of_lt hi
 rw [show i + j + 1 = i + (j + 1) by omega, ← List.replicate_append_replicate, List.flatten_append, List.drop_append_of_le_length (by simp [hv])]
 rw [List.drop_of_length_le (by simp [hv])]
 simp [List.replicate_succ, hv]
theorem o_clearF {K : Kd α} {O : Ow K} {x : Operand} {t e : TypeId} {z : Value} {by_ : Nat} {A D : Option Addr} {c dc lo n : Nat} {x0 : α} {xs zs : List α} (hH : Hp sb s0 F0 s cs) (i : Nat) (hl : Nat.blt i cs.length = true) (hk : y01 cs i = Ck.ol O e A c xs)
  (hx : evL l x = .slice D n dc) (hu : P.underlying t = some (.slice e)) (ht : TI P e z K.sz by_) (hzs : z.cells.size = K.sz) (hcell : z.cells.toList.all isCell = true) (h0 : ∀ sb s, O.own sb s no z.cells.toList x0) (hD : D = A ∧ lo = 0 ∨ D = cutA A c lo K.sz) (hln : lo + n ≤ xs.length) (hz : some (cpy xs lo n (List.replicate n x0)) = some zs)
  (h : ∀ s', Hp sb s0 F0 s' (setC cs i (Ck.ol O e A c zs)) → Kl (yz l d (.tuple #[])) s') : HO P false ⟨d, .call { callee := .builtin .clear, args := #[x], argTypes := #[t] }, ty, pos, af, gd⟩ l s Kl := by
 obtain rfl := Option.some.inj hz
 obtain ⟨Fi, g1, g2, g3⟩ := hH.upd i (Nat.le_of_ble_eq_true hl)
 rw [hk] at g1
 have hcp : cpy xs lo n (List.replicate n x0) = xs.take lo ++ List.replicate n x0 ++ xs.drop (lo + n) := by unfold cpy; simp
 rw [hcp] at h
 have hzl : (xs.take lo ++ List.replicate n x0 ++ xs.drop (lo + n)).length = xs.length := by simp; omega
 unfold HO execOp
 simp only [resolve, yh, yq, invoke, builtin, Builtin.clear_]
 simp only [List.map_toArray, List.map_cons, List.map_nil, hx, List.getElem?_toArray, List.getElem?_cons_zero, yh, yu hu, yq]
 by_cases hm0 : n = 0
 ·subst hm0
  have hsame : xs.take lo ++ List.replicate 0 x0 ++ xs.drop (lo + 0) = xs := by simp
  rw [hsame] at h
  have := h s (g3 s _ Fi (Fr.refl _ _) (fun _ h => .inl h) g1)
  cases D with
  | none => simp only [yq]; exact this
  | some a => simp only [yq]; exact this
 rcases g1 with ⟨_, hxn⟩ | ⟨b, o, y', rfl, a2, a3, a4, a5, a6, a7, a8, FE, b1, b2, b3⟩
 ·subst hxn; simp at hln; omega
 have hDe : D = some ⟨b, o + lo * K.sz, none⟩ := by
  rcases hD with ⟨h1, h2⟩ | h1
  ·subst h2; rw [h1]; simp
  ·rw [h1]
   unfold cutA
   rw [if_pos (by omega)]
   simp [addp]
 subst hDe
 obtain ⟨n, rfl⟩ := Nat.exists_eq_succ_of_ne_zero hm0
 simp only [yh, GOk_zeroValue ht, Builtin.zeroCells, hzs, zerosL hzs]
 have h1 : (List.replicate (n + 1) z.cells.toList).flatten.length = (n + 1) * K.sz := by simp [hzs]
 have hmul : lo * K.sz + (n + 1) * K.sz ≤ xs.length * K.sz := by rw [← Nat.add_mul]; exact Nat.mul_le_mul_right _ (by omega)
 have hcl := Nat.mul_le_mul_right K.sz a6
 have hle : o + lo * K.sz ≤ y'.cs.length := by omega
 refine GOk_storeC (KU := fun _ s' => GOk P false (pure (.tuple #[]) : Sem Value) s' _) _ y' 0 s a2 (g2 _ a4).g (by omega) (by rw [h1]; omega) (fun v hv => ?_) ?_
 ·obtain ⟨w, hw, hv⟩ := List.mem_flatten.1 hv
  rw [(List.mem_replicate.1 hw).2] at hv
  exact List.all_eq_true.1 hcell v hv
 simp only [yq, Nat.add_zero]
 generalize hvs : (List.replicate (n + 1) z.cells.toList).flatten = vs at h1
 have hE := Fr.setO (s := s) (b := b) { y' with cs := spl y'.cs (o + lo * K.sz) vs }
 refine h _ (g3 _ _ Fi (hE.weak fun q hq => hq ▸ a4) (fun _ h => .inl h) (.inr ⟨b, o, { y' with cs := spl y'.cs (o + lo * K.sz) vs }, rfl, by simp [St.setO], a3, a4, a5, by rw [hzl]; exact a6, a7, ?_, fun j => if lo ≤ j ∧ j < lo + (n + 1) then no else FE j, fun j w hj => ?_, fun j q hjq b hb hb' => ?_, fun j q hq => ?_⟩))
 ·show _ ≤ (spl _ _ _).length
  rw [spl_len hle, hzl]; omega
 ·show O.own sb _ (if lo ≤ j ∧ j < lo + (n + 1) then no else FE j) (((spl _ _ _).drop _).take _) w
  by_cases hj1 : j < lo
  ·rw [List.append_assoc, List.getElem?_append_left (by simp; omega), List.getElem?_take, if_pos hj1] at hj
   rw [if_neg (by omega), spl_part hle]
   ·exact O.fr (b1 j w hj) hE.toEqo fun q hq => (b3 j q hq).2
   ·left
    have : j * K.sz + K.sz ≤ lo * K.sz := by rw [← Nat.succ_mul]; exact Nat.mul_le_mul_right _ hj1
    omega
  ·rw [List.append_assoc, List.getElem?_append_right (by simp; omega)] at hj
   have hl0 : (xs.take lo).length = lo := by simp; omega
   rw [hl0] at hj
   by_cases hj2 : j < lo + (n + 1)
   ·rw [List.getElem?_append_left (by simp; omega), List.getElem?_replicate, if_pos (by omega)] at hj
    obtain rfl := Option.some.inj hj
    rw [if_pos (by omega)]
    have e1 : o + j * K.sz = o + lo * K.sz + (j - lo) * K.sz := by rw [Nat.add_assoc, ← Nat.add_mul]; congr 2; omega
    have : (j - lo) * K.sz + K.sz ≤ (n + 1) * K.sz := by rw [← Nat.succ_mul]; exact Nat.mul_le_mul_right _ (by omega)
    rw [e1, spl_at hle _ _ (by omega), ← hvs, flatten_rep (by simpa using hzs) _ _ (by omega)]
    exact h0 _ _
   ·rw [List.getElem?_append_right (by simp; omega), List.length_replicate, List.getElem?_drop] at hj
    rw [if_neg (by omega), spl_part hle]
    ·have e2 : lo + (n + 1) + (j - lo - (n + 1)) = j := by omega
     rw [e2] at hj
     exact O.fr (b1 j w hj) hE.toEqo fun q hq => (b3 j q hq).2
    ·right
     rw [h1]
     have : (lo + (n + 1)) * K.sz ≤ j * K.sz := Nat.mul_le_mul_right _ (by omega)
     rw [Nat.add_mul] at this
     omega
 ·try dsimp only at hb
  try dsimp only at hb'
  split at hb
  ·exact hb.elim
  ·split at hb'
   ·exact hb'.elim
   ·exact b2 j q hjq b hb hb'
 ·try dsimp only at hq
  split at hq
  ·exact hq.elim
  ·exact b3 j q hq
end
end Go.Proofs.GL

