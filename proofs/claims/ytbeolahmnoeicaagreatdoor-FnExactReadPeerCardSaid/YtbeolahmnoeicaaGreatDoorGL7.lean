/- A logic of what is known of memory, over the kit's weakest preconditions: one part. No conditions: lemmas. -/
import Derived.Test.YtbeolahmnoeicaaGreatDoorGL6
set_option linter.unusedVariables false
set_option linter.unusedSimpArgs false
namespace Go.Proofs.GL
open Go
section
variable {ρ : Type} {P : Program} {w0 : World} {o0 : Nat → Bool} {Q : Exit → List Value → St → Prop} {l : List Value} {s : St}
theorem HT_join {x y : Code} (J : List Value → St → Prop) (h1 : HT P w0 o0 x (thenG J Q) l s) (h2 : ∀ l s, J l s → HT P w0 o0 y Q l s) : HT P w0 o0 (.seq x y) Q l s :=
 HT_seq (HT_mono h1 fun e l s h => by cases e <;> first | exact h2 l s h | exact h)
theorem HT_to {x : Code} (J : List Value → St → Prop) (h1 : HT P w0 o0 x (thenG J Q) l s) (h2 : ∀ l s, J l s → Q .normal l s) : HT P w0 o0 x Q l s :=
 HT_mono h1 fun e l s h => by cases e <;> first | exact h2 l s h | exact h
theorem topE {ρ : Type} {t : Option ρ} {r : ρ} (H : t = some r) : t.bind some = some r := by rw [H]; rfl
theorem iteT {β : Type} {c : Bool} {x y : Option β} {G : β → Option ρ} {r : ρ} (hc : c = true) (H : (if c = true then x else y).bind G = some r) : x.bind G = some r := by rwa [if_pos hc] at H
theorem iteF {β : Type} {c : Bool} {x y : Option β} {G : β → Option ρ} {r : ρ} (hc : c = false) (H : (if c = true then x else y).bind G = some r) : y.bind G = some r := by
 rw [if_neg (by rw [hc]; exact Bool.false_ne_true)] at H
 exact H
theorem ya {α β : Type} {t : Option α} {f : α → Option β} {G : β → Option ρ} {r : ρ} (H : (t.bind f).bind G = some r) : ∃ a, t = some a ∧ (f a).bind G = some r := by
 rw [Option.bind_assoc] at H
 exact bindE H
theorem joinH {α β : Type} {t : Option α} {F : α → Option β} {G : β → Option ρ} {r : ρ} {goal : Prop} (H : (t.bind F).bind G = some r) (h : ∀ G' : α → Option ρ, (∀ o, G' o = some r → (F o).bind G = some r) → t.bind G' = some r → goal) : goal :=
 h (fun o => (F o).bind G) (fun _ h => h) (by rwa [Option.bind_assoc] at H)
theorem escH {σ τ : Type} {X : Option τ} {G' : Lo σ τ → Option ρ} {G : τ → Option ρ} {r : ρ} (hG : ∀ z, G' (.ret z) = some r → G z = some r) (H : (X.bind fun z => some (Lo.ret z)).bind G' = some r) : X.bind G = some r := by
 cases X with
 | none => cases H
 | some z => exact hG z H
end
def ResV (P : Program) (l : List Value) (s : St) : ResultVar → Value → Prop
 | .tmp t, v => v = getL l t
 | .cell a t, v => ∀ K : Value → St → Prop, K v s → GOk P true (do loadVar t (← asAddr (getL l a))) s K
def ResVs (P : Program) (l : List Value) (s : St) : List ResultVar → List Value → Prop
 | [], [] => True
 | r :: rs, v :: vs => ResV P l s r v ∧ ResVs P l s rs vs
 | _, _ => False
def oneV : List Value → Value
 | [v] => v
 | vs => .tuple vs.toArray
def retV (P : Program) (rs : List ResultVar) (R : Value → St → Prop) : Exit → List Value → St → Prop
 | .normal, l, s | .ret, l, s => ∃ vs, ResVs P l s rs vs ∧ R (oneV vs) s
 | _, _, _ => False
theorem ResVs.run {P : Program} {l : List Value} {s : St} : ∀ {rs : List ResultVar} {vs : List Value}, ResVs P l s rs vs → ∀ K : List Value → St → Prop, K vs s → GOk P true (rs.mapM (resOne l.toArray)) s K
 | [], [], _, K, h => by simpa [y8] using h
 | r :: rs, v :: vs, hh, K, h => by
  obtain ⟨h1, h2⟩ := hh
  rw [List.mapM_cons, y5]
  have key : ∀ K : Value → St → Prop, K v s → GOk P true (resOne l.toArray r) s K := fun K hK => by
   cases r with
   | tmp t =>
    have e : l.toArray.getD t undef = v := by
     have : v = getL l t := h1
     rw [this]
     simp [getL_eq, Array.getD_eq_getD_getElem?]
    show K (l.toArray.getD t undef) s
    rw [e]
    exact hK
   | cell a t =>
    have e : l.toArray.getD a undef = getL l a := by simp [getL_eq, Array.getD_eq_getD_getElem?]
    show GOk P true (do loadVar t (← asAddr (l.toArray.getD a undef))) s K
    rw [e]
    exact h1 K hK
  refine key _ ?_
  rw [y5]
  exact ResVs.run h2 _ h
theorem GCall_ofc {P : Program} {f : FuncId} {fn : Func} {c : Code} {args : Array Value} {l : List Value} {s : St} {R : Value → St → Prop} (rs : List ResultVar) (hf : P.funcs[f]? = some fn) (hb : fn.body = some c) (hr : fn.results = rs.toArray)
  (hl : args.toList ++ List.replicate (fn.ntmps - args.size) undef = l) (h : ∀ w, HT P w s.dom c (retV P rs R) l s) : yg P f args s R := by
 intro w hw
 refine calls_of_wp hf hb ?_
 have e : ({ tmps := args ++ Array.replicate (fn.ntmps - args.size) undef, defers := [] } : Act) = mkA l := by
  subst hl
  unfold mkA
  congr 1
  apply Array.ext'
  simp
 rw [e]
 refine wp_mono (h w w hw) ?_
 have key : ∀ l' s' w', (∃ vs, ResVs P l' s' rs vs ∧ R (oneV vs) s') → Ok w s.dom w' s' → ∃ v, (results fn l'.toArray).run P w' = .ok v w' ∧ R v s' := by
  rintro l' s' w' ⟨vs, hv, hR⟩ ho
  have : GOk P true (results fn l'.toArray) s' (fun v s2 => v = oneV vs) := by
   rw [results_eq, hr]
   have e : (rs.toArray.mapM (resOne l'.toArray)) = (List.toArray <$> rs.mapM (resOne l'.toArray)) := by simp [List.mapM_toArray]
   rw [e, y5, GOk_map]
   refine hv.run _ ?_
   match vs with
   | [] => rfl
   | [v] => rfl
   | a :: b :: vs => simp [oneV, y8]
  obtain ⟨x, w2, s2, h1, rfl, _, h4⟩ := GOk.sound _ w' s' ho this
  obtain rfl := h4 rfl
  exact ⟨_, h1, hR⟩
 rintro e a w' ⟨l', s', rfl, hq, ho⟩
 cases e with
 | normal =>
  obtain ⟨v, h1, h2⟩ := key l' s' w' hq ho
  exact ⟨rfl, _, h1, _, s', rfl, h2, ho⟩
 | ret =>
  obtain ⟨v, h1, h2⟩ := key l' s' w' hq ho
  exact ⟨rfl, _, h1, _, s', rfl, h2, ho⟩
 | _ => exact hq.elim
theorem ResV.cells {P : Program} {l : List Value} {s : St} {a : Tmp} {t T : TypeId} {td : TypeDesc} {b : Nat} {cs : List Value} {z : Value} {n by_ : Nat} (ha : getL l a = .pointer (some ⟨b, 0, none⟩)) (hu : P.underlying t = some td) (hp : plainT td = false) (ht : TI P t z n by_) (hb : s.t b = some (cs, T)) (hn : n = cs.length) : ResV P l s (.cell a t) (.agg cs.toArray) := fun K hK => by
 rw [ha]
 simp only [asAddr, loadVar, y5, y8, GOk_isAgg hu, hp, Bool.not_false, if_true, GOk_sizeOf ht]
 refine GOk_loadCells hn (fun j v hj => ?_) hK
 rw [addp]
 exact ⟨rfl, .inr ⟨_, hb, by simpa using hj⟩⟩
def st? {α : Type} (xs : List α) (i : Int) (x : α) : Option (List α) := if 0 ≤ i ∧ i < xs.length then some (xs.set i.toNat x) else none
theorem st?_some {α : Type} {xs ys : List α} {i : Int} {x : α} (h : st? xs i x = some ys) : (0 ≤ i ∧ i < xs.length) ∧ ys = xs.set i.toNat x := by
 unfold st? at h
 split at h
 ·rename_i h0
  exact ⟨h0, (Option.some.inj h).symm⟩
 ·cases h
def Kd.Flat {α : Type} (K : Kd α) : Prop := ∀ s s' cs x, K.rep s cs x → K.rep s' cs x
theorem Kd.int_flat (k : IntKind) : (Kd.int k).Flat := fun _ _ _ _ h => h
theorem Kd.bool_flat : Kd.bool.Flat := fun _ _ _ _ h => h
theorem Kd.str_flat : Kd.str.Flat := fun _ _ _ _ h => h
structure Alt (D : Nat → Prop) (s s' : St) : Prop where
 mono : ∀ b i v, ¬ D b → s.row b i v → s'.row b i v
 keep : Keep D no s s'
theorem Alt.chg {D : Nat → Prop} {s s' : St} (h : Chg D no s s') : Alt D s s' := ⟨fun b i v _ => h.mono b i v, h.keep⟩
theorem Alt.trans {D : Nat → Prop} {s t u : St} (h : Alt D s t) (k : Alt D t u) : Alt D s u :=
 ⟨fun b i v hD hb => k.mono b i v hD (h.mono b i v hD hb), ⟨fun b y hD hb => k.keep.o b y hD (h.keep.o b y hD hb), fun b y hD hb => k.keep.t b y hD (h.keep.t b y hD hb), fun b y hb => k.keep.x b y (h.keep.x b y hb),
  fun b => (k.keep.g b).trans (h.keep.g b), fun b hb => k.keep.dom b (h.keep.dom b hb)⟩⟩
theorem Alt.weak {D D' : Nat → Prop} {s t : St} (h : Alt D s t) (hD : ∀ b, D b → D' b) : Alt D' s t :=
 ⟨fun b i v hn => h.mono b i v (fun hb => hn (hD b hb)), ⟨fun b y hn => h.keep.o b y (fun hb => hn (hD b hb)), h.keep.t, h.keep.x, h.keep.g, h.keep.dom⟩⟩
section
variable {α : Type}
variable {P : Program} {ro : Bool} {l : List Value} {s : St} {Kl : List Value → St → Prop} {d : Option Tmp} {ty : TypeId} {pos : String} {af : Array Edge} {gd : Option (Nat × Bool)}
end
end Go.Proofs.GL

