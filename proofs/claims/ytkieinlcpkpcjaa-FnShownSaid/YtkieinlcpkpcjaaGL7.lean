/- A logic of what is known of memory, over the kit's weakest preconditions: part GL7. No conditions: lemmas. -/
import Derived.Test.YtkieinlcpkpcjaaGL6
set_option linter.unusedVariables false
set_option linter.unusedSimpArgs false
namespace Go.Proofs.GL
open Go

/-! ### 17. Joins -/
section
variable {ρ : Type} {P : Program} {w0 : World} {o0 : Nat → Bool} {Q : Exit → List Value → St → Prop} {l : List Value} {s : St}
theorem HT_join {x y : Code} (J : List Value → St → Prop) (h1 : HT P w0 o0 x (thenG J Q) l s) (h2 : ∀ l s, J l s → HT P w0 o0 y Q l s) : HT P w0 o0 (.seq x y) Q l s :=
  HT_seq (HT_mono h1 fun e l s h => by cases e <;> first | exact h2 l s h | exact h)
theorem HT_to {x : Code} (J : List Value → St → Prop) (h1 : HT P w0 o0 x (thenG J Q) l s) (h2 : ∀ l s, J l s → Q .normal l s) : HT P w0 o0 x Q l s :=
  HT_mono h1 fun e l s h => by cases e <;> first | exact h2 l s h | exact h
theorem topE {ρ : Type} {t : Option ρ} {r : ρ} (H : t = some r) : t.bind some = some r := by rw [H]; rfl
theorem iteT {β : Type} {c : Bool} {x y : Option β} {G : β → Option ρ} {r : ρ} (hc : c = true) (H : (if c = true then x else y).bind G = some r) : x.bind G = some r := by rwa [if_pos hc] at H
theorem iteF {β : Type} {c : Bool} {x y : Option β} {G : β → Option ρ} {r : ρ} (hc : c = false) (H : (if c = true then x else y).bind G = some r) : y.bind G = some r := by
  rw [if_neg (by rw [hc]; exact Bool.false_ne_true)] at H
  exact H
/-- A word that may have no answer, at the head. -/
theorem headE {α β : Type} {t : Option α} {f : α → Option β} {G : β → Option ρ} {r : ρ} (H : (t.bind f).bind G = some r) : ∃ a, t = some a ∧ (f a).bind G = some r := by
  rw [Option.bind_assoc] at H
  exact bindE H
/-- A join, at the head. -/
theorem joinH {α β : Type} {t : Option α} {F : α → Option β} {G : β → Option ρ} {r : ρ} {goal : Prop} (H : (t.bind F).bind G = some r) (h : ∀ G' : α → Option ρ, (∀ o, G' o = some r → (F o).bind G = some r) → t.bind G' = some r → goal) : goal :=
  h (fun o => (F o).bind G) (fun _ h => h) (by rwa [Option.bind_assoc] at H)
theorem escH {σ τ : Type} {X : Option τ} {G' : Lo σ τ → Option ρ} {G : τ → Option ρ} {r : ρ} (hG : ∀ z, G' (.ret z) = some r → G z = some r) (H : (X.bind fun z => some (Lo.ret z)).bind G' = some r) : X.bind G = some r := by
  cases X with
  | none => cases H
  | some z => exact hG z H
end

/-! ### 18. Results that lie in cells -/
def ResV (P : Program) (l : List Value) (s : St) : ResultVar → Value → Prop
  | .tmp t, v => v = getL l t
  | .cell a t, v => ∀ K : Value → St → Prop, K v s → GOk P true (do loadVar t (← asAddr (getL l a))) s K
def ResVs (P : Program) (l : List Value) (s : St) : List ResultVar → List Value → Prop
  | [], [] => True
  | r :: rs, v :: vs => ResV P l s r v ∧ ResVs P l s rs vs
  | _, _ => False
def oneV : List Value → Value
  | [v] => v
  | vs => .tuple vs.toArray
def retV (P : Program) (rs : List ResultVar) (R : Value → St → Prop) : Exit → List Value → St → Prop
  | .normal, l, s | .ret, l, s => ∃ vs, ResVs P l s rs vs ∧ R (oneV vs) s
  | _, _, _ => False
theorem ResVs.run {P : Program} {l : List Value} {s : St} : ∀ {rs : List ResultVar} {vs : List Value}, ResVs P l s rs vs → ∀ K : List Value → St → Prop, K vs s → GOk P true (rs.mapM (resOne l.toArray)) s K
  | [], [], _, K, h => by simpa [GOk_pure] using h
  | r :: rs, v :: vs, hh, K, h => by
    obtain ⟨h1, h2⟩ := hh
    rw [List.mapM_cons, GOk_bind]
    have key : ∀ K : Value → St → Prop, K v s → GOk P true (resOne l.toArray r) s K := fun K hK => by
      cases r with
      | tmp t =>
        have e : l.toArray.getD t undef = v := by
          have : v = getL l t := h1
          rw [this]
          simp [getL_eq, Array.getD_eq_getD_getElem?]
        show K (l.toArray.getD t undef) s
        rw [e]
        exact hK
      | cell a t =>
        have e : l.toArray.getD a undef = getL l a := by simp [getL_eq, Array.getD_eq_getD_getElem?]
        show GOk P true (do loadVar t (← asAddr (l.toArray.getD a undef))) s K
        rw [e]
        exact h1 K hK
    refine key _ ?_
    rw [GOk_bind]
    exact ResVs.run h2 _ h
theorem GCall_ofc {P : Program} {f : FuncId} {fn : Func} {c : Code} {args : Array Value} {l : List Value} {s : St} {R : Value → St → Prop} (rs : List ResultVar) (hf : P.funcs[f]? = some fn) (hb : fn.body = some c) (hr : fn.results = rs.toArray)
    (hl : args.toList ++ List.replicate (fn.ntmps - args.size) undef = l) (h : ∀ w, HT P w s.dom c (retV P rs R) l s) : GCall P f args s R := by
  intro w hw
  refine calls_of_wp hf hb ?_
  have e : ({ tmps := args ++ Array.replicate (fn.ntmps - args.size) undef, defers := [] } : Act) = mkA l := by
    subst hl
    unfold mkA
    congr 1
    apply Array.ext'
    simp
  rw [e]
  refine wp_mono (h w w hw) ?_
  have key : ∀ l' s' w', (∃ vs, ResVs P l' s' rs vs ∧ R (oneV vs) s') → Ok w s.dom w' s' → ∃ v, (results fn l'.toArray).run P w' = .ok v w' ∧ R v s' := by
    rintro l' s' w' ⟨vs, hv, hR⟩ ho
    have : GOk P true (results fn l'.toArray) s' (fun v s2 => v = oneV vs) := by
      rw [results_eq, hr]
      have e : (rs.toArray.mapM (resOne l'.toArray)) = (List.toArray <$> rs.mapM (resOne l'.toArray)) := by simp [List.mapM_toArray]
      rw [e, GOk_bind, GOk_map]
      refine hv.run _ ?_
      match vs with
      | [] => rfl
      | [v] => rfl
      | a :: b :: vs => simp [oneV, GOk_pure]
    obtain ⟨x, w2, s2, h1, rfl, _, h4⟩ := GOk.sound _ w' s' ho this
    obtain rfl := h4 rfl
    exact ⟨_, h1, hR⟩
  rintro e a w' ⟨l', s', rfl, hq, ho⟩
  cases e with
  | normal =>
    obtain ⟨v, h1, h2⟩ := key l' s' w' hq ho
    exact ⟨rfl, _, h1, _, s', rfl, h2, ho⟩
  | ret =>
    obtain ⟨v, h1, h2⟩ := key l' s' w' hq ho
    exact ⟨rfl, _, h1, _, s', rfl, h2, ho⟩
  | _ => exact hq.elim
theorem ResV.cells {P : Program} {l : List Value} {s : St} {a : Tmp} {t T : TypeId} {td : TypeDesc} {b : Nat} {cs : List Value} {z : Value} {n by_ : Nat} (ha : getL l a = .pointer (some ⟨b, 0, none⟩)) (hu : P.underlying t = some td) (hp : plainT td = false) (ht : TI P t z n by_) (hb : s.t b = some (cs, T)) (hn : n = cs.length) : ResV P l s (.cell a t) (.agg cs.toArray) := fun K hK => by
  rw [ha]
  simp only [asAddr, loadVar, GOk_bind, GOk_pure, GOk_isAgg hu, hp, Bool.not_false, if_true, GOk_sizeOf ht]
  refine GOk_loadCells hn (fun j v hj => ?_) hK
  rw [addp]
  exact ⟨rfl, .inr ⟨_, hb, by simpa using hj⟩⟩
theorem ResV.cell1 {P : Program} {l : List Value} {s : St} {a : Tmp} {t T : TypeId} {td : TypeDesc} {b : Nat} {v : Value} (ha : getL l a = .pointer (some ⟨b, 0, none⟩)) (hu : P.underlying t = some td) (hp : plainT td = true) (hb : s.t b = some ([v], T)) : ResV P l s (.cell a t) v := fun K hK => by
  rw [ha]
  simp only [asAddr, loadVar, GOk_bind, GOk_pure, GOk_isAgg hu, hp, Bool.not_true, Bool.false_eq_true, if_false]
  exact GOk_load ⟨rfl, .inr ⟨_, hb, rfl⟩⟩ hK

/-! ### 19. make; stores in place -/
def mk? {α : Type} (n : Nat) (x : α) (m : Int) : Option (List α) := if 0 ≤ m ∧ m ≤ n then some (List.replicate m.toNat x) else none
theorem mk?_some {α : Type} {n : Nat} {x : α} {m : Int} {zs : List α} (h : mk? n x m = some zs) : (0 ≤ m ∧ m ≤ n) ∧ zs = List.replicate m.toNat x := by
  unfold mk? at h
  split at h
  · rename_i h0
    exact ⟨h0, (Option.some.inj h).symm⟩
  · cases h
def st? {α : Type} (xs : List α) (i : Int) (x : α) : Option (List α) := if 0 ≤ i ∧ i < xs.length then some (xs.set i.toNat x) else none
theorem st?_some {α : Type} {xs ys : List α} {i : Int} {x : α} (h : st? xs i x = some ys) : (0 ≤ i ∧ i < xs.length) ∧ ys = xs.set i.toNat x := by
  unfold st? at h
  split at h
  · rename_i h0
    exact ⟨h0, (Option.some.inj h).symm⟩
  · cases h
def Kd.Flat {α : Type} (K : Kd α) : Prop := ∀ s s' cs x, K.rep s cs x → K.rep s' cs x
theorem Kd.int_flat (k : IntKind) : (Kd.int k).Flat := fun _ _ _ _ h => h
theorem Kd.bool_flat : Kd.bool.Flat := fun _ _ _ _ h => h
theorem Kd.str_flat : Kd.str.Flat := fun _ _ _ _ h => h
theorem Kd.pair_flat {α β : Type} {K : Kd α} {L : Kd β} (h1 : K.Flat) (h2 : L.Flat) : (K.pair L).Flat := by
  rintro s s' cs x ⟨c1, c2, h, h3, h4⟩
  exact ⟨c1, c2, h, h1 _ _ _ _ h3, h2 _ _ _ _ h4⟩
/-- Our rows in D may have been written in any way. -/
structure Alt (D : Nat → Prop) (s s' : St) : Prop where
  mono : ∀ b i v, ¬ D b → s.row b i v → s'.row b i v
  keep : Keep D no s s'
theorem Alt.chg {D : Nat → Prop} {s s' : St} (h : Chg D no s s') : Alt D s s' := ⟨fun b i v _ => h.mono b i v, h.keep⟩
theorem Alt.trans {D : Nat → Prop} {s t u : St} (h : Alt D s t) (k : Alt D t u) : Alt D s u :=
  ⟨fun b i v hD hb => k.mono b i v hD (h.mono b i v hD hb), ⟨fun b y hD hb => k.keep.o b y hD (h.keep.o b y hD hb), fun b y hD hb => k.keep.t b y hD (h.keep.t b y hD hb), fun b y hb => k.keep.x b y (h.keep.x b y hb),
    fun b => (k.keep.g b).trans (h.keep.g b), fun b hb => k.keep.dom b (h.keep.dom b hb)⟩⟩
theorem Alt.weak {D D' : Nat → Prop} {s t : St} (h : Alt D s t) (hD : ∀ b, D b → D' b) : Alt D' s t :=
  ⟨fun b i v hn => h.mono b i v (fun hb => hn (hD b hb)), ⟨fun b y hn => h.keep.o b y (fun hb => hn (hD b hb)), h.keep.t, h.keep.x, h.keep.g, h.keep.dom⟩⟩
section
variable {α : Type}
/-- A row that was made since is in no row that was known. -/
theorem Chg.alt {D E : Nat → Prop} {s0 s s' : St} {A} (hs : Chg D E s0 s) (hc : Alt (inA A) s s') (hA : NewA s0 A) : Chg D E s0 s' := by
  refine ⟨fun b i v hk => ?_, ⟨fun b y hD hb => hc.keep.o b y (fun h => by have := (hA b h).1; simp [St.dom, hb] at this) (hs.keep.o b y hD hb), fun b y hE hb => hc.keep.t b y (fun f => f) (hs.keep.t b y hE hb), fun b y hb => hc.keep.x b y (hs.keep.x b y hb),
    fun b => (hc.keep.g b).trans (hs.keep.g b), fun b hb => hc.keep.dom b (hs.keep.dom b hb)⟩⟩
  by_cases hA' : inA A b
  · obtain ⟨h1, h2⟩ := hA b hA'
    rcases hk with ⟨cs, h3, h4⟩ | ⟨z, h3, h4⟩
    · rw [h2] at h3; cases h3
    · simp [St.dom, h3] at h1
  · exact hc.mono b i v hA' (hs.mono b i v hk)
theorem Own.is.alt {K : Kd α} {e : TypeId} {s s' : St} {A B c xs} (h : Own.is K e s B c xs) (hc : Alt (inA A) s s') (ha : Apart A (eff B c)) (hf : K.Flat) : Own.is K e s' B c xs := by
  rcases h with ⟨rfl, rfl⟩ | ⟨b, cs, rfl, ho, hg, hl, hcc, hm, hr⟩
  · exact .inl ⟨rfl, rfl⟩
  · by_cases hc0 : c = 0
    · subst hc0
      exact .inl ⟨rfl, List.eq_nil_of_length_eq_zero (by omega)⟩
    exact .inr ⟨b, cs, rfl, hc.keep.o b _ (fun h => ha b h ⟨0, effS hc0⟩) ho, (hc.keep.g b).trans hg, hl, hcc, hm, fun i x hx => hf _ _ _ _ (hr i x hx)⟩
theorem Rd.alt {K : Kd α} {s s' : St} {A B c xs} (h : Rd K s B c xs) (hc : Alt (inA A) s s') (ha : Apart A B) (hf : K.Flat) : Rd K s' B c xs :=
  ⟨h.1, h.2.1, fun hn => by
    obtain ⟨b, o, hA, hcc⟩ := h.2.2 hn
    refine ⟨b, o, hA, fun i x hx => ?_⟩
    obtain ⟨cs, h1, h2⟩ := hcc i x hx
    exact ⟨cs, hf _ _ _ _ h1, fun j v hj => hc.mono _ _ _ (fun h => ha b h ⟨o, hA⟩) (h2 j v hj)⟩⟩
theorem Var.alt {D : Nat → Prop} {s0 s s' : St} {b cs T} (h : Var s0 s b cs T) (hc : Alt D s s') : Var s0 s' b cs T := ⟨hc.keep.t b _ (fun f => f) h.t, (hc.keep.g b).trans h.g, h.new⟩
variable {P : Program} {ro : Bool} {l : List Value} {s : St} {Kl : List Value → St → Prop} {d : Option Tmp} {ty : TypeId} {pos : String} {af : Array Edge} {gd : Option (Nat × Bool)}
theorem o_make {K : Kd α} {x : Operand} {t e : TypeId} {z : Value} {by_ n : Nat} {m : Int} {x0 : α} {zs : List α} (hx : evL l x = .int .i64 m) (hu : P.underlying t = some (.slice e)) (ht : TI P e z K.sz by_) (hz : z.cells.size = K.sz) (hpos : 0 < K.sz) (hby : 0 < by_) (hr : ∀ s, K.rep s z.cells.toList x0) (hn : n * by_ ≤ 140737488355328) (hm : mk? n x0 m = some zs)
    (h : ∀ A s', Own.is K e s' A zs.length zs → NewA s (eff A zs.length) → Sub s s' → Kl (putL l d (.slice A zs.length zs.length)) s') : HO P false ⟨d, .makeSlice t x x, ty, pos, af, gd⟩ l s Kl := by
  obtain ⟨⟨h0, h1⟩, rfl⟩ := mk?_some hm
  obtain ⟨i, hi, hi1, hi2, hi3⟩ := ht.get
  have hnn : n ≤ 140737488355328 := Nat.le_trans (Nat.le_mul_of_pos_right _ hby) hn
  obtain ⟨k, rfl⟩ := Int.eq_ofNat_of_zero_le h0
  have hk : k ≤ n := by omega
  have hw : IntKind.i64.wrap (k : Int) = k := by rw [IntKind.wrap_i64]; omega
  have hb : by_ * k ≤ 140737488355328 := by
    rw [Nat.mul_comm]
    exact Nat.le_trans (Nat.mul_le_mul_right _ hk) hn
  have hb' : ¬ ((by_ : Int) * (k : Int) > 2 ^ 48) := by
    have e2 : (2 : Int) ^ 48 = 281474976710656 := by rfl
    have := Int.ofNat_le.2 hb
    rw [e2, ← Int.natCast_mul]
    omega
  unfold HO execOp
  simp only [hx, Instr.makeSlice, GOk_bind, GOk_underlying hu, asInt, asIntOf, GOk_pure, GOk_typeInfo hi, hi3, hw]
  rw [if_neg (by rw [Bool.or_eq_true, Bool.or_eq_true]; simp only [decide_eq_true_eq, Bool.or_eq_true]; rintro ((h | h) | h) <;> first | exact hb' h | omega | (rcases h with h | h <;> first | exact hb' h | omega))]
  simp only [GOk_bind]
  refine GOk_askRoom ?_
  have hkz : (Int.toNat (k : Int)) = k := by omega
  simp only [hkz, GOk_bind, GOk_sizeOf ht]
  have key : ∀ cs : Array Value, cs.toList = (List.replicate k z.cells.toList).flatten → GOk P false (do let a ← newRow e cs; pure (.slice (some a) k k) : Sem Value) s (afterOp P false ⟨d, .makeSlice t x x, ty, pos, af, gd⟩ l Kl ∘ Next.value) := fun cs hcs => by
    have hsz : cs.size = k * K.sz := by
      rw [← Array.length_toList, hcs]
      simp [hz]
    simp only [newRow, newObj, GOk_bind]
    refine ⟨rfl, some cs.size, fun b hb => ?_⟩
    have e4 : (s.allocAs (some cs.size) b (.cells cs e)) = s.setO b ⟨cs.toList, cs.size, e⟩ := by
      show s.setO b ⟨cs.toList.take cs.size, cs.size, e⟩ = _
      rw [List.take_of_length_le (by simp)]
    rw [e4]
    have := h (some ⟨b, 0, none⟩) (s.setO b ⟨cs.toList, cs.size, e⟩) (by
      have h9 := Own.lit K e hb cs.toList (List.replicate k x0) (by rw [Array.length_toList, hsz]; simp) (by simp; unfold maxN; omega) (fun i x hx => by
        obtain ⟨hi, hx⟩ := List.getElem?_eq_some_iff.1 hx
        rw [List.length_replicate] at hi
        rw [List.getElem_replicate] at hx
        subst hx
        have : (cs.toList.drop (i * K.sz)).take K.sz = z.cells.toList := by
          rw [hcs]
          obtain ⟨j, rfl⟩ := Nat.exists_eq_add_of_lt hi
          rw [show i + j + 1 = i + (j + 1) by omega, ← List.replicate_append_replicate, List.flatten_append, List.drop_append_of_le_length (by simp [hz])]
          rw [List.drop_of_length_le (by simp [hz])]
          simp [List.replicate_succ, hz]
        rw [this]
        exact hr _)
      simpa using h9) ((newA hb).eff _) (Sub.setO hb _)
    have this : Kl (putL l d (.slice (some ⟨b, 0, none⟩) k k)) (s.setO b ⟨cs.toList, cs.size, e⟩) := by simpa using this
    exact this
  have hcells : ∀ n : Nat, ((Array.range (n * K.sz)).map (z.cells[· % z.cells.size]!)).toList = (List.replicate n z.cells.toList).flatten := fun n => by
    simp only [Array.toList_map, Array.toList_range]
    induction n with
    | zero => simp
    | succ n ih =>
      rw [Nat.succ_mul, List.range_add, List.map_append, ih, List.replicate_succ', List.flatten_append]
      congr 1
      apply List.ext_getElem?
      intro i
      simp only [List.map_map, List.getElem?_map, List.flatten_cons, List.flatten_nil, List.append_nil]
      by_cases hi : i < K.sz
      · rw [List.getElem?_range hi]
        simp [hz, Nat.mod_eq_of_lt hi, Nat.add_mod, hi]
      · rw [List.getElem?_eq_none (by simpa using hi), List.getElem?_eq_none (by simp [hz]; omega)]
        rfl
  by_cases hk0 : k * K.sz = 0
  · rw [if_pos hk0]
    obtain rfl : k = 0 := by
      rcases Nat.mul_eq_zero.1 hk0 with h | h <;> omega
    exact key _ (by simp)
  · rw [if_neg hk0]
    simp only [GOk_bind, GOk_zeroValue ht, GOk_pure]
    exact key _ (hcells k)
theorem GOk_storeS {b off : Nat} {KU : Unit → St → Prop} : ∀ (vs : List Value) (y : Own) (i : Nat) (s : St), s.o b = some y → s.shared b ≤ off + i → off + i + vs.length ≤ y.cs.length → (∀ v ∈ vs, isCell v = true) → KU () (s.setO b { y with cs := setN y.cs (off + i) vs }) → GOk P false (storeCells ⟨b, off, none⟩ vs i) s KU := by
  intro vs
  induction vs with
  | nil =>
    intro y i s hb _ _ _ hk
    have : s.setO b { y with cs := setN y.cs (off + i) [] } = s := by
      have e : ({ y with cs := setN y.cs (off + i) [] } : Own) = y := by cases y; rfl
      rw [e]
      unfold St.setO
      have : (fun k => if k = b then some y else s.o k) = s.o := by
        funext k
        by_cases h : k = b
        · subst h; simp [hb]
        · simp [h]
      rw [this]
    rw [this] at hk
    exact hk
  | cons v vs ih =>
    intro y i s hb hs hr hc hk
    unfold storeCells
    rw [GOk_bind]
    rw [addp]
    simp only [List.length_cons] at hr
    refine ⟨rfl, hc v (by simp), s.setO b { y with cs := y.cs.set (off + i) v }, ⟨rfl, .inl ?_⟩, ?_⟩
    · simp only [St.putO, hb]
      rw [if_pos hs, if_pos (by omega)]
    · refine ih { y with cs := y.cs.set (off + i) v } (i + 1) _ (by simp [St.setO]) (by show s.shared b ≤ _; omega) (by simp; omega) (fun u hu => hc u (by simp [hu])) ?_
      rw [setO_setO]
      exact hk
theorem setN_take : ∀ (vs cs : List Value) (i : Nat), i + vs.length ≤ cs.length → ((setN cs i vs).drop i).take vs.length = vs
  | [], cs, i, _ => by simp
  | v :: vs, cs, i, h => by
    simp only [List.length_cons] at h
    have ih := setN_take vs (cs.set i v) (i + 1) (by simp; omega)
    have hv : (setN (cs.set i v) (i + 1) vs)[i]? = some v := by
      have : ∀ (vs cs : List Value) (j i : Nat), i < j → (setN cs j vs)[i]? = cs[i]? := by
        intro vs
        induction vs with
        | nil => intro cs j i _; rfl
        | cons u us ih =>
          intro cs j i hj
          rw [setN, ih _ _ _ (by omega), List.getElem?_set_ne (by omega)]
      rw [this _ _ _ _ (by omega)]
      exact List.getElem?_set_self (by omega)
    obtain ⟨h1, h2⟩ := List.getElem?_eq_some_iff.1 hv
    rw [setN, List.drop_eq_getElem_cons h1, h2, List.length_cons, List.take_succ_cons, ih]
theorem setN_out : ∀ (vs cs : List Value) (i j : Nat), j < i ∨ i + vs.length ≤ j → (setN cs i vs)[j]? = cs[j]?
  | [], cs, i, j, _ => rfl
  | v :: vs, cs, i, j, h => by
    simp only [List.length_cons] at h
    rw [setN, setN_out vs _ (i + 1) j (by omega), List.getElem?_set_ne (by omega)]
/-- The address of an element of a list of ours. -/
theorem o_elo {K : Kd α} {xs : List α} {x ix : Operand} {t e : TypeId} {z : Value} {by_ : Nat} {A : Option Addr} {c : Nat} {k : IntKind} {i : Int} {u : α} (hx : evL l x = .slice A xs.length c) (hi : evL l ix = .int k i) (hu : P.underlying t = some (.slice e)) (ht : TI P e z K.sz by_) (ho : Own.is K e s A c xs)
    (hrd : rd? xs i = some u) (h : ∀ b cs, A = some ⟨b, 0, none⟩ → K.rep s cs u → (∀ j v, cs[j]? = some v → s.has ⟨b, i.toNat * K.sz + j, none⟩ v) → Kl (putL l d (.pointer (some ⟨b, i.toNat * K.sz, none⟩))) s) : HO P ro ⟨d, .indexAddr t x ix, ty, pos, af, gd⟩ l s Kl := by
  obtain ⟨h0, h1, h2⟩ := rd?_some hrd
  rcases ho with ⟨rfl, rfl⟩ | ⟨b, cs, rfl, hb, hg, hl, hcc, hm, hr⟩
  · simp at h2
  · have := h b _ rfl (hr _ _ h2) (fun j v hj => ⟨rfl, .inl (.inr ⟨_, hb, getElem?_drop_take hj⟩)⟩)
    refine o_iaddr hx hi hu ht h0 h1 ?_
    rw [addp, Nat.zero_add]
    exact this
/-- A store of an element. -/
theorem o_seto {K : Kd α} {xs ys : List α} {x y : Operand} {e : TypeId} {z : Value} {by_ : Nat} {b c off : Nat} {i : Int} {v : Value} {vs : List Value} {u : α} (hx : evL l x = .pointer (some ⟨b, off, none⟩)) (hoff : off = i.toNat * K.sz) (hy : evL l y = v) (hv : v.cells.toList = vs) (ht : TI P e z K.sz by_) (ho : Own.is K e s (some ⟨b, 0, none⟩) c xs) (hst : st? xs i u = some ys) (hrep : K.rep s vs u) (hf : K.Flat)
    (h : ∀ s', Own.is K e s' (some ⟨b, 0, none⟩) c ys → Alt (inA (eff (some ⟨b, 0, none⟩) c)) s s' → Kl (putL l d undef) s') : HO P false ⟨d, .store e x y, ty, pos, af, gd⟩ l s Kl := by
  obtain ⟨⟨h0, h1⟩, rfl⟩ := st?_some hst
  subst hoff
  have hlen := K.len hrep
  rcases ho with ⟨_, h⟩ | ⟨b', cs, hA, hb, hg, hl, hcc, hm, hr⟩
  · subst h
    simp at h1
    omega
  have hcz : c ≠ 0 := by omega
  injection hA with hA
  injection hA with hA _ _
  subst hA
  have hroom : i.toNat * K.sz + K.sz ≤ cs.length := by
    rw [hl, ← Nat.succ_mul]
    exact Nat.mul_le_mul_right _ (by omega : i.toNat + 1 ≤ xs.length)
  have hsz : v.cells.size = K.sz := by rw [← Array.length_toList, hv, hlen]
  unfold HO execOp
  simp only [hx, hy, Instr.storeAt, Instr.sureAddr, GOk_bind, GOk_pure, storeVar, GOk_sizeOf ht, hsz, ne_eq, not_true_eq_false, if_false, hv]
  refine GOk_storeS vs ⟨cs, c * K.sz, e⟩ 0 s hb (by simp [St.shared, hg]) (by rw [hlen]; exact hroom) (K.one hrep) ?_
  refine ⟨rfl, h _ (.inr ⟨b, setN cs (i.toNat * K.sz) vs, rfl, by simp [St.setO], hg, by rw [setN_length, hl, List.length_set], by rw [List.length_set]; exact hcc, hm, fun j w hj => ?_⟩) ⟨?_, ?_⟩⟩
  · by_cases hji : j = i.toNat
    · subst hji
      rw [List.getElem?_set_self (by omega)] at hj
      obtain rfl := Option.some.inj hj
      have := setN_take vs cs (i.toNat * K.sz) (by rw [hlen]; exact hroom)
      rw [hlen] at this
      rw [this]
      exact hf _ _ _ _ hrep
    · rw [List.getElem?_set_ne (by omega)] at hj
      have : ((setN cs (i.toNat * K.sz) vs).drop (j * K.sz)).take K.sz = (cs.drop (j * K.sz)).take K.sz := by
        apply List.ext_getElem?
        intro q
        simp only [List.getElem?_take, List.getElem?_drop]
        split
        · rename_i hq
          refine setN_out _ _ _ _ ?_
          rw [hlen]
          rcases Nat.lt_or_gt_of_ne hji with hlt | hgt
          · left
            have := Nat.mul_le_mul_right K.sz hlt
            rw [Nat.succ_mul] at this
            omega
          · right
            have := Nat.mul_le_mul_right K.sz hgt
            rw [Nat.succ_mul] at this
            omega
        · rfl
      rw [this]
      exact hf _ _ _ _ (hr j w hj)
  · rintro k q w hk (⟨cs', h3, h4⟩ | ⟨z', h3, h4⟩)
    · exact .inl ⟨cs', h3, h4⟩
    · have : k ≠ b := fun e' => hk ⟨0, by rw [effS hcz, e']⟩
      exact .inr ⟨z', by simpa [St.setO, this] using h3, h4⟩
  · exact ⟨fun k w hk hw => (Keep.setO s b _).o k w (fun e' => hk ⟨0, by rw [effS hcz, e']⟩) hw, fun k w _ hw => hw, fun k w hw => hw, fun _ => rfl, fun k hk => dom_setO s b _ hk⟩
end
end Go.Proofs.GL
