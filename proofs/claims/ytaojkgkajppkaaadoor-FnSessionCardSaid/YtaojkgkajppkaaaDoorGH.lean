/- A logic of what is known of memory, over the kit's weakest preconditions: one part. No conditions: lemmas. -/
import Derived.Test.YtaojkgkajppkaaaDoorGG
set_option linter.unusedVariables false
set_option linter.unusedSimpArgs false
namespace Go.Proofs.GL
open Go
section
variable {α β : Type} {sb s0 s : St} {F0 : Fp} {cs : List Ck}
end
section
variable {P : Program} {w0 : World} {o0 : Nat → Bool} {ops : Array Oper} {Q : Exit → List Value → St → Prop} {l : List Value} {s : St}
end
end Go.Proofs.GL
namespace Go.Proofs.GL
open Go
theorem Hp.drop {sb s0 s : St} {F0 : Fp} {cs : List Ck} (h : Hp sb s0 F0 s cs) (k : Nat) (hl : Nat.blt k cs.length = true) : Hp sb s0 F0 s (yq cs k Ck.emp) := by
  obtain ⟨Fi, g1, g2, g3⟩ := h.upd k (Nat.le_of_ble_eq_true hl)
  exact g3 s _ no (Fr.refl _ _) (fun _ h => h.elim) trivial
end Go.Proofs.GL
namespace Go.Proofs.GL
open Go
section
variable {P : Program} {ro : Bool} {s : St} {Kl : List Value → St → Prop} {l : List Value} {d : Option Tmp} {ty : TypeId} {pos : String} {af : Array Edge} {gd : Option (Nat × Bool)}
theorem o_cap {xs : Operand} {t e : TypeId} {A : Option Addr} {n c : Nat} (hx : evL l xs = .slice A n c) (hu : P.underlying t = some (.slice e)) (h : Kl (y2 l d (.int .i64 c)) s) :
    HO P ro ⟨d, .call { callee := .builtin .cap, args := #[xs], argTypes := #[t] }, ty, pos, af, gd⟩ l s Kl := by
  unfold HO execOp
  simp [hx, resolve, invoke, builtin, Builtin.cap_, ym, yv, yy hu, goInt]
  exact h
end
theorem cut?_nil {α : Type} {ys : List α} {L H : Int} (h : cut? ([] : List α) L H = some ys) : ys = [] := by
  obtain ⟨_, rfl⟩ := cut?_some h
  simp
theorem zerosL {z : Array Value} {n w : Nat} (hz : z.size = w) : ((Array.range (n * w)).map fun i => z[i % w]!).toList = (List.replicate n z.toList).flatten := by
  simp only [Array.toList_map, Array.toList_range]
  induction n with
  | zero => simp
  | succ n ih =>
    rw [Nat.succ_mul, List.range_add, List.map_append, ih, List.replicate_succ', List.flatten_append]
    congr 1
    apply List.ext_getElem?
    intro i
    simp only [List.map_map, List.getElem?_map, List.flatten_cons, List.flatten_nil, List.append_nil]
    by_cases hi : i < w
    · rw [List.getElem?_range hi]
      simp [hz, Nat.mod_eq_of_lt hi, Nat.add_mod, hi]
    · rw [List.getElem?_eq_none (by simpa using hi), List.getElem?_eq_none (by simp [hz]; omega)]
      rfl
section
variable {P : Program} {sb s0 s : St} {F0 : Fp} {cs : List Ck} {Kl : List Value → St → Prop} {l : List Value} {d : Option Tmp} {ty : TypeId} {pos : String} {af : Array Edge} {gd : Option (Nat × Bool)}
theorem o_appM {α : Type} {K : Kd α} {O : Ow K} {x y : Operand} {t t2 e : TypeId} {z : Value} {by_ n : Nat} {m : Int} {x0 : α} {zs : List α} (hH : Hp sb s0 F0 s cs) (hx : evL l x = .slice none 0 0) (hy : evL l y = .int .i64 m) (hu : P.underlying t = some (.slice e)) (hu2 : P.underlying t2 = some (.int .i64)) (ht : TI P e z K.sz by_) (hz : z.cells.size = K.sz) (hpos : 0 < K.sz) (hby : 0 < by_) (hn : n * by_ ≤ 140737488355328) (h0 : ∀ sb s, O.own sb s no z.cells.toList x0) (hm : mk? n x0 m = some zs)
    (h : ∀ A c s', Hp sb s0 F0 s' (yp cs [Ck.ol O e A c zs]) → Gro s s' → Kl (y2 l d (.slice A zs.length c)) s') : HO P false ⟨d, .call { callee := .builtin .append, args := #[x, y], argTypes := #[t, t2] }, ty, pos, af, gd⟩ l s Kl := by
  obtain ⟨⟨g0, g1⟩, rfl⟩ := mk?_some hm
  obtain ⟨i, hi, hi1, hi2, hi3⟩ := ht.get
  have hnn : n ≤ 140737488355328 := Nat.le_trans (Nat.le_mul_of_pos_right _ hby) hn
  obtain ⟨k, rfl⟩ := Int.eq_ofNat_of_zero_le g0
  have hk : k ≤ n := by omega
  have hw : IntKind.i64.wrap (k : Int) = k := by rw [IntKind.wrap_i64]; omega
  have hb : k * by_ ≤ 140737488355328 := Nat.le_trans (Nat.mul_le_mul_right _ hk) hn
  have hb' : ¬ ((k : Int) * (by_ : Int) > 2 ^ 48) := by
    have e2 : (2 : Int) ^ 48 = 281474976710656 := by rfl
    have := Int.ofNat_le.2 hb
    rw [e2, ← Int.natCast_mul]
    omega
  have hkz : (Int.toNat (k : Int)) = k := by omega
  have hlt : ¬ ((k : Int) < 0) := by omega
  unfold HO execOp
  simp only [resolve, ym, yv, invoke, builtin, Builtin.append_]
  simp only [List.map_toArray, List.map_cons, List.map_nil, hx, hy, List.getElem?_toArray, List.getElem?_cons_zero, List.getElem?_cons_succ, ym, yy hu, yy hu2, yv, GOk_sizeOf ht, asInt, asIntOf, hw, if_true, if_neg hlt, GOk_typeInfo hi, hi3, if_neg hb', hkz, Nat.zero_add]
  by_cases hk0 : k = 0
  · subst hk0
    simp only [Nat.le_refl, if_true, ym, Bool.not_true, Bool.false_eq_true, if_false, Nat.zero_mul, yv]
    exact h none 0 s (hH.nil O e) (Gro.refl s)
  · have hk1 : ¬ k ≤ 0 := by omega
    simp only [hk1, if_false, ym, GOk_typeInfo hi, hi3]
    have n2 : ¬ (Builtin.nextslicecap k 0 * by_ > 2 ^ 48) := by
      have := growslice_fits (need := k) (old := 0) (bytes := by_) (by omega) hb
      have e2 : (2 : Nat) ^ 48 = 281474976710656 := by decide
      omega
    have n1 : ¬ (((k : Nat) : Int) > IntKind.i64.max ∧ (True ∨ by_ = 0)) := by
      rintro ⟨h, _⟩
      have : IntKind.i64.max = 9223372036854775807 := by decide
      omega
    rw [if_neg n1]
    simp only [ym, GOk_typeInfo hi, hi3, if_neg n2]
    unfold choose
    refine (show _ ∧ ∀ n, _ from ⟨rfl, fun n => ?_⟩ : GOk P false (Sem.choose (Question.appendCap k 0 e) Sem.pure) s _)
    show GOk P false (Sem.pure (k + n % (2 ^ 63 - k))) s _
    generalize hnc : k + n % (2 ^ 63 - k) = nc
    have hnc1 : k ≤ nc := by omega
    have hnc2 : nc ≤ maxN := by
      have : n % (2 ^ 63 - k) < 2 ^ 63 - k := Nat.mod_lt _ (by omega)
      unfold maxN
      omega
    simp only [GOk_pure', ym]
    refine GOk_askRoom ?_
    have hks : ¬ (k * K.sz = 0) := by
      intro h
      rcases Nat.mul_eq_zero.1 h with h | h <;> omega
    simp only [Builtin.firstCells, ym, yv, Bool.not_true, Bool.false_eq_true, if_false, if_neg hks, GOk_zeroValue ht, newRow, newObj]
    refine ⟨rfl, some (k * K.sz), fun b hbf => ?_⟩
    simp only [yv, GOk_pure']
    have hcs : ((#[] ++ Builtin.zeroCells z.cells k ++ Builtin.zeroCells z.cells (nc - k)).toList).take (k * K.sz) = (List.replicate k z.cells.toList).flatten := by
      simp only [Array.toList_append, Builtin.zeroCells, hz, zerosL hz]
      rw [List.nil_append, List.take_append_of_le_length (by simp [hz])]
      exact List.take_of_length_le (by simp [hz])
    have hsz : (#[] ++ Builtin.zeroCells z.cells k ++ Builtin.zeroCells z.cells (nc - k)).size = nc * K.sz := by
      simp only [Array.size_append, Builtin.zeroCells, Array.size_map, Array.size_range, hz]
      rw [Array.size_empty, Nat.zero_add, ← Nat.add_mul, Nat.add_sub_cancel' hnc1]
    show Kl (y2 l d (.slice (some ⟨b, 0, none⟩) k nc)) (s.setO b ⟨_, _, e⟩)
    rw [hcs, hsz]
    have := h (some ⟨b, 0, none⟩) nc _ (hH.newF (O := O) (List.replicate k z.cells.toList).flatten (List.replicate k x0) (by simp [hz]) (fun i x hx => ?_) e hbf nc (by simpa using hnc1) hnc2) (Fr.newO hbf _).gro
    · rw [List.length_replicate] at this
      exact this
    · obtain ⟨hi, hx⟩ := List.getElem?_eq_some_iff.1 hx
      rw [List.length_replicate] at hi
      rw [List.getElem_replicate] at hx
      subst hx
      have : (((List.replicate k z.cells.toList).flatten).drop (i * K.sz)).take K.sz = z.cells.toList := by
        obtain ⟨j, rfl⟩ := Nat.exists_eq_add_of_lt hi
        rw [show i + j + 1 = i + (j + 1) by omega, ← List.replicate_append_replicate, List.flatten_append, List.drop_append_of_le_length (by simp [hz])]
        rw [List.drop_of_length_le (by simp [hz])]
        simp [List.replicate_succ, hz]
      rw [this]
      exact h0 _ _
end
end Go.Proofs.GL

