/- A logic of what is known of memory, over the kit's weakest preconditions: one part. No conditions: lemmas. -/
import Derived.Test.YtbeolahmnoeicaaGreatDoorGL9
set_option linter.unusedVariables false
set_option linter.unusedSimpArgs false
namespace Go.Proofs.GL
open Go
abbrev Fp := Nat → Prop
structure Eqo (G : Fp) (s s' : St) : Prop where
 o : ∀ b y, ¬ G b → s.o b = some y → s'.o b = some y
 t : ∀ b y, ¬ G b → s.t b = some y → s'.t b = some y
 x : ∀ b y, ¬ G b → s.x b = some y → s'.x b = some y
 g : ∀ b, s'.g b = s.g b
structure Fr (G : Fp) (s s' : St) : Prop extends Eqo G s s' where
 dom : ∀ b, s.dom b = true → s'.dom b = true
structure Bs (sb s : St) : Prop where
 g : ∀ b, s.g b = sb.g b
 o : ∀ b y, sb.o b = some y → s.o b = some y
theorem Bs.mono {sb s : St} (h : Bs sb s) : Mono sb s := by
 rintro b i v (⟨cs, h1, h2⟩ | ⟨y, h1, h2⟩)
 ·exact .inl ⟨cs, (h.g b).trans h1, h2⟩
 ·exact .inr ⟨y, h.o b y h1, h2⟩
theorem Bs.refl (s : St) : Bs s s := ⟨fun _ => rfl, fun _ _ h => h⟩
theorem Bs.trans {a b c : St} (h : Bs a b) (k : Bs b c) : Bs a c := ⟨fun x => (k.g x).trans (h.g x), fun x y hx => k.o x y (h.o x y hx)⟩
theorem Eqo.refl (G : Fp) (s : St) : Eqo G s s := ⟨fun _ _ _ h => h, fun _ _ _ h => h, fun _ _ _ h => h, fun _ => rfl⟩
theorem Fr.refl (G : Fp) (s : St) : Fr G s s := ⟨Eqo.refl G s, fun _ h => h⟩
theorem Eqo.weak {G G' : Fp} {s s' : St} (h : Eqo G s s') (hG : ∀ b, G b → G' b) : Eqo G' s s' := ⟨fun b y hb => h.o b y (fun h => hb (hG b h)), fun b y hb => h.t b y (fun h => hb (hG b h)), fun b y hb => h.x b y (fun h => hb (hG b h)), h.g⟩
theorem Fr.weak {G G' : Fp} {s s' : St} (h : Fr G s s') (hG : ∀ b, G b → G' b) : Fr G' s s' := ⟨h.toEqo.weak hG, h.dom⟩
theorem Fr.step {F0 G : Fp} {s0 s s' : St} (h : Fr F0 s0 s) (k : Fr G s s') (hG : ∀ b, G b → F0 b ∨ s0.dom b = false) : Fr F0 s0 s' := by
 have key : ∀ b, ¬ F0 b → s0.dom b = true → ¬ G b := fun b h1 h2 h3 => (hG b h3).elim h1 (fun h => by rw [h] at h2; cases h2)
 refine ⟨⟨fun b y hb hy => k.o b y (key b hb (by simp [St.dom, hy])) (h.o b y hb hy), fun b y hb hy => k.t b y (key b hb (by simp [St.dom, hy])) (h.t b y hb hy), fun b y hb hy => k.x b y (key b hb (by simp [St.dom, hy])) (h.x b y hb hy), fun b => (k.g b).trans (h.g b)⟩, fun b hb => k.dom b (h.dom b hb)⟩
theorem Fr.setO {s : St} {b : Nat} (z : Own) : Fr (fun k => k = b) s (s.setO b z) :=
 ⟨⟨fun k y hk h => by simpa [St.setO, show ¬ k = b from hk] using h, fun _ _ _ h => h, fun _ _ _ h => h, fun _ => rfl⟩, fun k hk => dom_setO s b z hk⟩
theorem Fr.setT {s : St} {b : Nat} (z : List Value × TypeId) : Fr (fun k => k = b) s (s.setT b z) :=
 ⟨⟨fun _ _ _ h => h, fun k y hk h => by simpa [St.setT, show ¬ k = b from hk] using h, fun _ _ _ h => h, fun _ => rfl⟩, fun k hk => dom_setT s b z hk⟩
theorem Fr.newO {s : St} {b : Nat} (hf : s.fresh b) (z : Own) : Fr no s (s.setO b z) :=
 ⟨⟨fun k y _ h => by
  have : k ≠ b := by rintro rfl; rw [hf.2.1] at h; cases h
  simpa [St.setO, this] using h, fun _ _ _ h => h, fun _ _ _ h => h, fun _ => rfl⟩, fun k hk => dom_setO s b z hk⟩
theorem Fr.newT {s : St} {b : Nat} (hf : s.fresh b) (z : List Value × TypeId) : Fr no s (s.setT b z) :=
 ⟨⟨fun _ _ _ h => h, fun k y _ h => by
  have : k ≠ b := by rintro rfl; rw [hf.2.2.1] at h; cases h
  simpa [St.setT, this] using h, fun _ _ _ h => h, fun _ => rfl⟩, fun k hk => dom_setT s b z hk⟩
section
variable {α β : Type}
structure Ow (K : Kd α) where
 own : St → St → Fp → List Value → α → Prop
 rep : ∀ {sb s F cs x}, own sb s F cs x → Bs sb s → K.rep s cs x
 fr : ∀ {sb s s' F G cs x}, own sb s F cs x → Eqo G s s' → (∀ b, F b → ¬ G b) → own sb s' F cs x
 up : ∀ {sb sb' s F cs x}, own sb s F cs x → Bs sb sb' → own sb' s F cs x
 le : ∀ {sb s F F' cs x}, own sb s F cs x → (∀ b, F b → F' b) → own sb s F' cs x
def Ow.flat {K : Kd α} (hf : K.Flat) : Ow K := ⟨fun _ s _ cs x => K.rep s cs x, fun h _ => h, fun h _ _ => hf _ _ _ _ h, fun h _ => h, fun h _ => h⟩
def Ow.lent (K : Kd α) : Ow K := ⟨fun sb _ _ cs x => K.rep sb cs x, fun h hb => K.mono hb.mono h, fun h _ _ => h, fun h hb => K.mono hb.mono h, fun h _ => h⟩
def Dj (F G : Fp) : Prop := ∀ b, F b → ¬ G b
def Ow.pair {K : Kd α} {L : Kd β} (O : Ow K) (O' : Ow L) : Ow (K.pair L) where
 own := fun sb s F cs x => ∃ c1 c2, cs = c1 ++ c2 ∧ ∃ F1 F2, Dj F1 F2 ∧ (∀ b, F1 b → F b) ∧ (∀ b, F2 b → F b) ∧ O.own sb s F1 c1 x.1 ∧ O'.own sb s F2 c2 x.2
 rep := by rintro sb s F cs x ⟨c1, c2, h, F1, F2, _, _, _, h1, h2⟩ hb; exact ⟨c1, c2, h, O.rep h1 hb, O'.rep h2 hb⟩
 fr := by rintro sb s s' F G cs x ⟨c1, c2, h, F1, F2, hd, l1, l2, h1, h2⟩ he hG; exact ⟨c1, c2, h, F1, F2, hd, l1, l2, O.fr h1 he (fun b hb => hG b (l1 b hb)), O'.fr h2 he (fun b hb => hG b (l2 b hb))⟩
 up := by rintro sb sb' s F cs x ⟨c1, c2, h, F1, F2, hd, l1, l2, h1, h2⟩ hb; exact ⟨c1, c2, h, F1, F2, hd, l1, l2, O.up h1 hb, O'.up h2 hb⟩
 le := by rintro sb s F F' cs x ⟨c1, c2, h, F1, F2, hd, l1, l2, h1, h2⟩ hl; exact ⟨c1, c2, h, F1, F2, hd, fun b hb => hl b (l1 b hb), fun b hb => hl b (l2 b hb), h1, h2⟩
def els {K : Kd α} (O : Ow K) (sb s : St) (F : Fp) (cs : List Value) (o : Nat) (xs : List α) : Prop :=
 ∃ FE : Nat → Fp, (∀ i x, xs[i]? = some x → O.own sb s (FE i) ((cs.drop (o + i * K.sz)).take K.sz) x) ∧ (∀ i j, i ≠ j → Dj (FE i) (FE j)) ∧ ∀ i b, FE i b → F b
def ol {K : Kd α} (O : Ow K) (e : TypeId) (A : Option Addr) (c : Nat) (xs : List α) (sb s : St) (F : Fp) : Prop :=
 (c = 0 ∧ xs = []) ∨ ∃ b o y, A = some ⟨b, o, none⟩ ∧ s.o b = some y ∧ y.e = e ∧ F b ∧ o + c * K.sz ≤ y.room ∧ xs.length ≤ c ∧ c ≤ maxN ∧ o + xs.length * K.sz ≤ y.cs.length ∧ els O sb s (fun k => F k ∧ k ≠ b) y.cs o xs
theorem els.rep {K : Kd α} {O : Ow K} {sb s F cs o xs} (h : els O sb s F cs o xs) (hb : Bs sb s) (i : Nat) (x : α) (hx : xs[i]? = some x) : K.rep s ((cs.drop (o + i * K.sz)).take K.sz) x := by
 obtain ⟨FE, h1, _⟩ := h
 exact O.rep (h1 i x hx) hb
theorem els.fr {K : Kd α} {O : Ow K} {sb s s' F G cs o xs} (h : els O sb s F cs o xs) (he : Eqo G s s') (hG : ∀ b, F b → ¬ G b) : els O sb s' F cs o xs := by
 obtain ⟨FE, h1, h2, h3⟩ := h
 exact ⟨FE, fun i x hx => O.fr (h1 i x hx) he fun b hb => hG b (h3 i b hb), h2, h3⟩
theorem els.up {K : Kd α} {O : Ow K} {sb sb' s F cs o xs} (h : els O sb s F cs o xs) (hb : Bs sb sb') : els O sb' s F cs o xs := by
 obtain ⟨FE, h1, h2, h3⟩ := h
 exact ⟨FE, fun i x hx => O.up (h1 i x hx) hb, h2, h3⟩
theorem els.le {K : Kd α} {O : Ow K} {sb s F F' cs o xs} (h : els O sb s F cs o xs) (hl : ∀ b, F b → F' b) : els O sb s F' cs o xs := by
 obtain ⟨FE, h1, h2, h3⟩ := h
 exact ⟨FE, h1, h2, fun i b hb => hl b (h3 i b hb)⟩
theorem ol.rd {K : Kd α} {O : Ow K} {e A c xs sb s F} (h : ol O e A c xs sb s F) (hb : Bs sb s) : Rd K s A c xs := by
 rcases h with ⟨rfl, rfl⟩ | ⟨b, o, y, rfl, ho, _, _, hr, hc, hm, hl, he⟩
 ·exact ⟨Nat.le_refl _, Nat.zero_le _, fun h => absurd rfl h⟩
 ·refine ⟨hc, hm, fun _ => ⟨b, o, rfl, fun i x hx => ⟨_, he.rep hb i x hx, fun j v hj => .inr ⟨_, ho, ?_⟩⟩⟩⟩
  exact getElem?_drop_take hj
theorem ol.fr {K : Kd α} {O : Ow K} {e A c xs sb s s' F G} (h : ol O e A c xs sb s F) (he : Eqo G s s') (hG : ∀ b, F b → ¬ G b) : ol O e A c xs sb s' F := by
 rcases h with h | ⟨b, o, y, h1, h2, h3, h4, h5, h6, h7, h8, h9⟩
 ·exact .inl h
 ·exact .inr ⟨b, o, y, h1, he.o b y (hG b h4) h2, h3, h4, h5, h6, h7, h8, h9.fr he fun k hk => hG k hk.1⟩
theorem ol.up {K : Kd α} {O : Ow K} {e A c xs sb sb' s F} (h : ol O e A c xs sb s F) (hb : Bs sb sb') : ol O e A c xs sb' s F := by
 rcases h with h | ⟨b, o, y, h1, h2, h3, h4, h5, h6, h7, h8, h9⟩
 ·exact .inl h
 ·exact .inr ⟨b, o, y, h1, h2, h3, h4, h5, h6, h7, h8, h9.up hb⟩
theorem ol.le {K : Kd α} {O : Ow K} {e A c xs sb s F F'} (h : ol O e A c xs sb s F) (hl : ∀ b, F b → F' b) : ol O e A c xs sb s F' := by
 rcases h with h | ⟨b, o, y, h1, h2, h3, h4, h5, h6, h7, h8, h9⟩
 ·exact .inl h
 ·exact .inr ⟨b, o, y, h1, h2, h3, hl b h4, h5, h6, h7, h8, h9.le fun k hk => ⟨hl k hk.1, hk.2⟩⟩
def Ow.sl {K : Kd α} (O : Ow K) (e : TypeId) : Ow K.sl where
 own := fun sb s F cs x => ∃ A c, cs = [.slice A x.length c] ∧ ol O e A c x sb s F
 rep := by rintro sb s F cs x ⟨A, c, h, h1⟩ hb; exact ⟨A, c, h, h1.rd hb⟩
 fr := by rintro sb s s' F G cs x ⟨A, c, h, h1⟩ he hG; exact ⟨A, c, h, h1.fr he hG⟩
 up := by rintro sb sb' s F cs x ⟨A, c, h, h1⟩ hb; exact ⟨A, c, h, h1.up hb⟩
 le := by rintro sb s F F' cs x ⟨A, c, h, h1⟩ hl; exact ⟨A, c, h, h1.le hl⟩
class Ow.Free {K : Kd α} (O : Ow K) : Prop where
 free : ∀ {sb sb' s F cs x}, O.own sb s F cs x → O.own sb' s F cs x
instance {K : Kd α} (hf : K.Flat) : (Ow.flat hf).Free := ⟨fun h => h⟩
instance {K : Kd α} {L : Kd β} (O : Ow K) (O' : Ow L) [O.Free] [O'.Free] : (O.pair O').Free := ⟨by
 rintro sb sb' s F cs x ⟨c1, c2, h, F1, F2, hd, l1, l2, h1, h2⟩
 exact ⟨c1, c2, h, F1, F2, hd, l1, l2, Ow.Free.free h1, Ow.Free.free h2⟩⟩
theorem ol.free {K : Kd α} {O : Ow K} [O.Free] {e A c xs sb sb' s F} (h : ol O e A c xs sb s F) : ol O e A c xs sb' s F := by
 rcases h with h | ⟨b, o, y, h1, h2, h3, h4, h5, h6, h7, h8, FE, h9, h10, h11⟩
 ·exact .inl h
 ·exact .inr ⟨b, o, y, h1, h2, h3, h4, h5, h6, h7, h8, FE, fun i x hx => Ow.Free.free (h9 i x hx), h10, h11⟩
instance {K : Kd α} (O : Ow K) (e : TypeId) [O.Free] : (O.sl e).Free := ⟨by
 rintro sb sb' s F cs x ⟨A, c, h, h1⟩
 exact ⟨A, c, h, h1.free⟩⟩
end
structure Ck where
 P : St → St → Fp → Prop
 fr : ∀ {sb s s' F G}, P sb s F → Eqo G s s' → (∀ b, F b → ¬ G b) → P sb s' F
 up : ∀ {sb sb' s F}, P sb s F → Bs sb sb' → P sb' s F
 le : ∀ {sb s F F'}, P sb s F → (∀ b, F b → F' b) → P sb s F'
section
variable {α β : Type}
def Ck.emp : Ck := ⟨fun _ _ _ => True, fun _ _ _ => trivial, fun _ _ => trivial, fun _ _ => trivial⟩
def Ck.ol {K : Kd α} (O : Ow K) (e : TypeId) (A : Option Addr) (c : Nat) (xs : List α) : Ck := ⟨GL.ol O e A c xs, fun h => h.fr, fun h => h.up, fun h => h.le⟩
def Ck.ov (b : Nat) (cs : List Value) (T : TypeId) : Ck := ⟨fun _ s F => s.t b = some (cs, T) ∧ F b, fun h he hG => ⟨he.t b _ (hG b h.2) h.1, h.2⟩, fun h _ => h, fun h hl => ⟨h.1, hl b h.2⟩⟩
def Ck.el {K : Kd α} (O : Ow K) (cs : List Value) (x : α) : Ck := ⟨fun sb s F => O.own sb s F cs x, fun h => O.fr h, fun h => O.up h, fun h => O.le h⟩
class Ck.Free (c : Ck) : Prop where
 free : ∀ {sb sb' s F}, c.P sb s F → c.P sb' s F
instance : Ck.emp.Free := ⟨fun h => h⟩
instance {K : Kd α} (O : Ow K) [O.Free] (e : TypeId) (A : Option Addr) (c : Nat) (xs : List α) : (Ck.ol O e A c xs).Free := ⟨fun h => ol.free h⟩
instance (b : Nat) (cs : List Value) (T : TypeId) : (Ck.ov b cs T).Free := ⟨fun h => h⟩
instance {K : Kd α} (O : Ow K) [O.Free] (cs : List Value) (x : α) : (Ck.el O cs x).Free := ⟨fun h => Ow.Free.free (O := O) h⟩
class AllFree (cs : List Ck) : Prop where
 free : ∀ c ∈ cs, ∀ {sb sb' s F}, c.P sb s F → c.P sb' s F
instance : AllFree [] := ⟨fun c hc => by cases hc⟩
instance (c : Ck) (cs : List Ck) [c.Free] [AllFree cs] : AllFree (c :: cs) := ⟨fun d hd => by
 rcases List.mem_cons.1 hd with rfl | hd
 ·exact fun h => Ck.Free.free h
 ·exact fun h => AllFree.free d hd h⟩
def getC : List Ck → Nat → Ck
 | [], _ => Ck.emp
 | c :: _, 0 => c
 | _ :: cs, n + 1 => getC cs n
def setC : List Ck → Nat → Ck → List Ck
 | [], _, _ => []
 | _ :: cs, 0, d => d :: cs
 | c :: cs, n + 1, d => c :: setC cs n d
def addC : List Ck → List Ck → List Ck
 | [], ds => ds
 | c :: cs, ds => c :: addC cs ds
def rmC : List Ck → List Nat → List Ck
 | cs, [] => cs
 | cs, i :: is => rmC (setC cs i Ck.emp) is
def selC (cs : List Ck) : List Nat → List Ck
 | [] => []
 | i :: is => getC cs i :: selC cs is
theorem getC_setC : ∀ (cs : List Ck) (i j : Nat) (d : Ck), getC (setC cs i d) j = if i = j ∧ i < cs.length then d else getC cs j
 | [], i, j, d => by simp [setC, getC]
 | c :: cs, 0, 0, d => by simp [setC, getC]
 | c :: cs, 0, j + 1, d => by simp [setC, getC]
 | c :: cs, i + 1, 0, d => by simp [setC, getC]
 | c :: cs, i + 1, j + 1, d => by simp [setC, getC, getC_setC cs i j d]
theorem getC_out : ∀ (cs : List Ck) (i : Nat), cs.length ≤ i → getC cs i = Ck.emp
 | [], _, _ => rfl
 | c :: cs, 0, h => by simp at h
 | c :: cs, i + 1, h => by simp only [getC]; exact getC_out cs i (by simpa using h)
theorem setC_length : ∀ (cs : List Ck) (i : Nat) (d : Ck), (setC cs i d).length = cs.length
 | [], i, d => rfl
 | c :: cs, 0, d => rfl
 | c :: cs, i + 1, d => by simp [setC, setC_length cs i d]
theorem getC_addC : ∀ (cs ds : List Ck) (i : Nat), getC (addC cs ds) i = if i < cs.length then getC cs i else getC ds (i - cs.length)
 | [], ds, i => by simp [addC]
 | c :: cs, ds, 0 => by simp [addC, getC]
 | c :: cs, ds, i + 1 => by simp [addC, getC, getC_addC cs ds i]
theorem rmC_length : ∀ (is : List Nat) (cs : List Ck), (rmC cs is).length = cs.length
 | [], cs => rfl
 | i :: is, cs => by rw [rmC, rmC_length is, setC_length]
theorem getC_rmC : ∀ (is : List Nat) (cs : List Ck) (j : Nat), (j ∈ is → getC (rmC cs is) j = Ck.emp) ∧ (j ∉ is → getC (rmC cs is) j = getC cs j)
 | [], cs, j => ⟨by simp, by simp [rmC]⟩
 | i :: is, cs, j => by
  obtain ⟨h1, h2⟩ := getC_rmC is (setC cs i Ck.emp) j
  rw [rmC]
  refine ⟨fun hj => ?_, fun hj => ?_⟩
  ·by_cases hji : j ∈ is
   ·exact h1 hji
   ·have : j = i := by simpa [hji] using hj
    subst this
    rw [h2 hji, getC_setC]
    split
    ·rfl
    ·rename_i hn
     exact getC_out _ _ (by simp at hn; omega)
  ·simp only [List.mem_cons, not_or] at hj
   rw [h2 hj.2, getC_setC, if_neg (fun h => hj.1 h.1.symm)]
theorem getC_selC : ∀ (is : List Nat) (cs : List Ck) (k : Nat), getC (selC cs is) k = if h : k < is.length then getC cs is[k] else Ck.emp
 | [], cs, k => by simp [selC, getC]
 | i :: is, cs, 0 => by simp [selC, getC]
 | i :: is, cs, k + 1 => by simp [selC, getC, getC_selC is cs k]
end
structure Gr (sb s0 : St) (F0 : Fp) (s : St) (b : Nat) : Prop where
 dom : s.dom b = true
 g : s.g b = none
 sb : sb.o b = none
 new : F0 b ∨ s0.dom b = false
structure Hp (sb s0 : St) (F0 : Fp) (s : St) (cs : List Ck) : Prop where
 fr : Fr F0 s0 s
 bs : Bs sb s
 ck : ∃ F : Nat → Fp, (∀ i, (getC cs i).P sb s (F i)) ∧ (∀ i j, i ≠ j → Dj (F i) (F j)) ∧ ∀ i b, F i b → Gr sb s0 F0 s b
theorem fresh_sb {sb s : St} (h : Bs sb s) {b : Nat} (hf : s.fresh b) : sb.o b = none := by
 cases e : sb.o b with
 | none => rfl
 | some y => have := h.o b y e; rw [hf.2.1] at this; cases this
theorem fresh_new {F0 : Fp} {s0 s : St} (h : Fr F0 s0 s) {b : Nat} (hf : s.fresh b) : s0.dom b = false := by
 cases e : s0.dom b with
 | false => rfl
 | true => have := h.dom b e; rw [fresh_dom hf] at this; cases this
theorem Hp.core {sb s0 : St} {F0 : Fp} {s s' : St} {cs cs' : List Ck} {F F' : Nat → Fp} {G : Fp} (h : Hp sb s0 F0 s cs) (hF3 : ∀ i b, F i b → Gr sb s0 F0 s b)
  (hfr : Fr G s s') (hG : ∀ b, G b → ∃ i, F i b) (h1 : ∀ i, (getC cs' i).P sb s' (F' i)) (h2 : ∀ i j, i ≠ j → Dj (F' i) (F' j)) (h3 : ∀ i b, F' i b → (∃ j, F j b) ∨ s.fresh b ∧ s'.dom b = true) : Hp sb s0 F0 s' cs' := by
 have hGs : ∀ b, G b → sb.o b = none ∧ (F0 b ∨ s0.dom b = false) := fun b hb => by
  obtain ⟨i, hi⟩ := hG b hb
  exact ⟨(hF3 i b hi).sb, (hF3 i b hi).new⟩
 refine ⟨h.fr.step hfr fun b hb => (hGs b hb).2, ⟨fun b => (hfr.g b).trans (h.bs.g b), fun b y hy => hfr.o b y (fun hb => ?_) (h.bs.o b y hy)⟩, F', h1, h2, fun i b hb => ?_⟩
 ·rw [(hGs b hb).1] at hy; cases hy
 ·rcases h3 i b hb with ⟨j, hj⟩ | ⟨hf, hd⟩
  ·have := hF3 j b hj
   exact ⟨hfr.dom b this.dom, (hfr.g b).trans this.g, this.sb, this.new⟩
  ·exact ⟨hd, (hfr.g b).trans hf.1, fresh_sb h.bs hf, .inr (fresh_new h.fr hf)⟩
theorem Hp.upd {sb s0 : St} {F0 : Fp} {s : St} {cs : List Ck} (h : Hp sb s0 F0 s cs) (i : Nat) (hi : i < cs.length) :
  ∃ Fi : Fp, (getC cs i).P sb s Fi ∧ (∀ b, Fi b → Gr sb s0 F0 s b) ∧ ∀ s' c' F', Fr Fi s s' → (∀ b, F' b → Fi b ∨ s.fresh b ∧ s'.dom b = true) → c'.P sb s' F' → Hp sb s0 F0 s' (setC cs i c') := by
 obtain ⟨F, h1, h2, h3⟩ := h.ck
 refine ⟨F i, h1 i, h3 i, fun s' c' F' hfr hF' hc' => ?_⟩
 refine h.core (F := F) (F' := fun j => if j = i then F' else F j) h3 hfr (fun b hb => ⟨i, hb⟩) (fun j => ?_) (fun j k hjk => ?_) (fun j b hb => ?_)
 ·by_cases hj : j = i
  ·subst hj; simp only [getC_setC, hi, and_self, if_true]; exact hc'
  ·rw [getC_setC, if_neg (fun h => hj h.1.symm), if_neg hj]
   exact (getC cs j).fr (h1 j) hfr.toEqo (h2 j i hj)
 ·have key : ∀ m, m ≠ i → ∀ b, F' b → ¬ F m b := fun m hm b hb hmb => by
   rcases hF' b hb with h | ⟨hf, _⟩
   ·exact h2 i m (Ne.symm hm) b h hmb
   ·have := (h3 m b hmb).dom; rw [fresh_dom hf] at this; cases this
  by_cases hj : j = i
  ·by_cases hk : k = i
   ·exact absurd (hj.trans hk.symm) hjk
   ·simp only [hj, hk, if_true, if_false]; exact key k hk
  ·by_cases hk : k = i
   ·simp only [hj, hk, if_true, if_false]; exact fun b hb hb' => key j hj b hb' hb
   ·simp only [hj, hk, if_false]; exact h2 j k hjk
 ·by_cases hj : j = i
  ·simp only [hj, if_true] at hb
   rcases hF' b hb with h | h
   ·exact .inl ⟨i, h⟩
   ·exact .inr h
  ·simp only [hj, if_false] at hb
   exact .inl ⟨j, hb⟩
theorem Hp.new {sb s0 : St} {F0 : Fp} {s s' : St} {cs : List Ck} (h : Hp sb s0 F0 s cs) {c' : Ck} {F' : Fp} (hfr : Fr no s s') (hF' : ∀ b, F' b → s.fresh b ∧ s'.dom b = true) (hc' : c'.P sb s' F') : Hp sb s0 F0 s' (addC cs [c']) := by
 obtain ⟨F, h1, h2, h3⟩ := h.ck
 refine h.core (F := F) (F' := fun j => if j < cs.length then F j else if j = cs.length then F' else no) h3 hfr (fun b hb => hb.elim) (fun j => ?_) (fun j k hjk => ?_) (fun j b hb => ?_)
 ·rw [getC_addC]
  by_cases hj : j < cs.length
  ·simp only [hj, if_true]
   exact (getC cs j).fr (h1 j) hfr.toEqo fun b _ hb => hb.elim
  ·simp only [hj, if_false]
   by_cases hj2 : j = cs.length
   ·subst hj2; simp only [Nat.sub_self, if_true]; exact hc'
   ·rw [show j - cs.length = (j - cs.length - 1) + 1 by omega]
    exact trivial
 ·have key : ∀ m b, F m b → ¬ F' b := fun m b hmb hb => by
   have := (h3 m b hmb).dom; rw [fresh_dom (hF' b hb).1] at this; cases this
  intro b hb hb'
  split at hb
  ·split at hb'
   ·exact h2 j k hjk b hb hb'
   ·split at hb'
    ·exact key j b hb hb'
    ·exact hb'.elim
  ·split at hb
   ·split at hb'
    ·exact key k b hb' hb
    ·split at hb'
     ·omega
     ·exact hb'.elim
   ·exact hb.elim
 ·split at hb
  ·exact .inl ⟨j, hb⟩
  ·split at hb
   ·exact .inr (hF' b hb)
   ·exact hb.elim
theorem nodup_inj {is : List Nat} (hn : is.Nodup) {j k : Nat} (hj : j < is.length) (hk : k < is.length) (e : is[j] = is[k]) : j = k := by
 have h := List.pairwise_iff_getElem.1 hn
 rcases Nat.lt_trichotomy j k with h1 | h1 | h1
 ·exact absurd e (h j k hj hk h1)
 ·exact h1
 ·exact absurd e.symm (h k j hk hj h1)
def Fsel (F : Nat → Fp) (is : List Nat) : Nat → Fp := fun k b => ∃ h : k < is.length, F is[k] b
theorem Fsel.P {F : Nat → Fp} {is : List Nat} {cs : List Ck} {sb s : St} (h : ∀ i, (getC cs i).P sb s (F i)) (k : Nat) : (getC (selC cs is) k).P sb s (Fsel F is k) := by
 rw [getC_selC]
 split
 ·rename_i hk
  exact (getC cs _).le (h _) fun b hb => ⟨hk, hb⟩
 ·exact trivial
theorem Fsel.dj {F : Nat → Fp} {is : List Nat} (hn : is.Nodup) (h : ∀ i j, i ≠ j → Dj (F i) (F j)) (j k : Nat) (hjk : j ≠ k) : Dj (Fsel F is j) (Fsel F is k) := fun b ⟨h1, hb⟩ ⟨h2, hb'⟩ => h _ _ (fun e => hjk (nodup_inj hn h1 h2 e)) b hb hb'
theorem Hp.sel {sb s0 : St} {F0 : Fp} {s : St} {cs : List Ck} (h : Hp sb s0 F0 s cs) (is : List Nat) (hn : is.Nodup) : Hp sb s0 F0 s (selC cs is) := by
 obtain ⟨F, h1, h2, h3⟩ := h.ck
 exact ⟨h.fr, h.bs, Fsel F is, Fsel.P h1, Fsel.dj hn h2, fun k b ⟨_, hb⟩ => h3 _ b hb⟩
def cup (F : Nat → Fp) (is : List Nat) : Fp := fun b => ∃ i ∈ is, F i b
structure Up (F1 : Fp) (sb sb' s : St) : Prop where
 g : ∀ b, sb'.g b = sb.g b
 o : ∀ b y, sb.o b = some y → sb'.o b = some y
 new : ∀ b y, sb'.o b = some y → sb.o b = some y ∨ F1 b ∨ s.dom b = false
theorem Up.refl (F1 : Fp) (sb s : St) : Up F1 sb sb s := ⟨fun _ => rfl, fun _ _ h => h, fun _ _ h => .inl h⟩
theorem Up.trans {F1 : Fp} {a b c s : St} (h : Up F1 a b s) (k : Up F1 b c s) : Up F1 a c s := ⟨fun x => (k.g x).trans (h.g x), fun x y hx => k.o x y (h.o x y hx), fun x y hx => (k.new x y hx).elim (h.new x y) .inr⟩
theorem Up.bs {F1 : Fp} {sb sb' s : St} (h : Up F1 sb sb' s) : Bs sb sb' := ⟨h.g, h.o⟩
theorem Hp.takeC {sb s0 : St} {F0 : Fp} {s : St} {cs : List Ck} (h : Hp sb s0 F0 s cs) (is : List Nat) (hn : is.Nodup) :
  ∃ F1 : Fp, Hp sb s F1 s (selC cs is) ∧ (∀ b, F1 b → F0 b ∨ s0.dom b = false) ∧ ∀ sb' s' ds, Up F1 sb sb' s → Hp sb' s F1 s' ds → Hp sb' s0 F0 s' (addC (rmC cs is) ds) := by
 obtain ⟨F, h1, h2, h3⟩ := h.ck
 refine ⟨cup F is, ⟨Fr.refl _ _, h.bs, Fsel F is, Fsel.P h1, Fsel.dj hn h2, fun k b ⟨hk, hb⟩ => ?_⟩, fun b ⟨i, _, hb⟩ => (h3 i b hb).new, fun sb' s' ds hu hD => ?_⟩
 ·have := h3 _ b hb
  exact ⟨this.dom, this.g, this.sb, .inl ⟨_, List.getElem_mem hk, hb⟩⟩
 ·have hc1 : ∀ b, cup F is b → F0 b ∨ s0.dom b = false := fun b ⟨i, _, hb⟩ => (h3 i b hb).new
  obtain ⟨D, d1, d2, d3⟩ := hD.ck
  have dis : ∀ i k b, i ∉ is → F i b → ¬ D k b := fun i k b hi hb hd => by
   rcases (d3 k b hd).new with ⟨j, hj, hjb⟩ | hf
   ·exact h2 i j (fun e => hi (e ▸ hj)) b hb hjb
   ·have := (h3 i b hb).dom; rw [hf] at this; cases this
  refine ⟨h.fr.step hD.fr hc1, hD.bs, fun k => if k < cs.length then (if k ∈ is then no else F k) else D (k - cs.length), fun k => ?_, fun j k hjk b hb hb' => ?_, fun k b hb => ?_⟩
  ·rw [getC_addC, rmC_length]
   by_cases hk : k < cs.length
   ·simp only [hk, if_true]
    by_cases hki : k ∈ is
    ·simp only [hki, if_true]; rw [(getC_rmC is cs k).1 hki]; exact trivial
    ·simp only [hki, if_false]; rw [(getC_rmC is cs k).2 hki]
     exact (getC cs k).up ((getC cs k).fr (h1 k) hD.fr.toEqo fun b hb ⟨i, hi, hib⟩ => h2 k i (fun e => hki (e ▸ hi)) b hb hib) hu.bs
   ·simp only [hk, if_false]; exact d1 _
  ·dsimp only at hb hb'
   split at hb
   ·split at hb
    ·exact hb.elim
    ·rename_i hj hji
     split at hb'
     ·split at hb'
      ·exact hb'.elim
      ·exact h2 j k hjk b hb hb'
     ·exact dis j _ b hji hb hb'
   ·split at hb'
    ·split at hb'
     ·exact hb'.elim
     ·rename_i hk hki
      exact dis k _ b hki hb' hb
    ·exact d2 _ _ (by omega) b hb hb'
  ·dsimp only at hb
   split at hb
   ·split at hb
    ·exact hb.elim
    ·have := h3 k b hb
     refine ⟨hD.fr.dom b this.dom, (hD.fr.g b).trans this.g, ?_, this.new⟩
     cases e : sb'.o b with
     | none => rfl
     | some y =>
      rcases hu.new b y e with h | ⟨i, hi, hib⟩ | h
      ·rw [this.sb] at h; cases h
      ·exact absurd hib (h2 k i (fun e => (by assumption : k ∉ is) (e ▸ hi)) b hb)
      ·rw [this.dom] at h; cases h
   ·have := d3 _ b hb
    refine ⟨this.dom, this.g, this.sb, ?_⟩
    rcases this.new with hc | hf
    ·exact hc1 b hc
    ·right
     cases e : s0.dom b with
     | false => rfl
     | true => have := h.fr.dom b e; rw [hf] at this; cases this
theorem Hp.take {sb s0 : St} {F0 : Fp} {s : St} {cs : List Ck} (h : Hp sb s0 F0 s cs) (is : List Nat) (hn : is.Nodup) :
  ∃ F1 : Fp, Hp sb s F1 s (selC cs is) ∧ ∀ sb' s' ds, Up F1 sb sb' s → Hp sb' s F1 s' ds → Hp sb' s0 F0 s' (addC (rmC cs is) ds) :=
 let ⟨F1, a, _, b⟩ := h.takeC is hn
 ⟨F1, a, b⟩
noncomputable def St.wo (s : St) (G : Fp) : St := by
 classical
 exact { s with o := fun b => if G b then none else s.o b }
theorem Eqo.wo (s : St) (G : Fp) : Eqo G s (s.wo G) := ⟨fun b y hb h => by simp only [St.wo, hb, if_false]; exact h, fun _ _ _ h => h, fun _ _ _ h => h, fun _ => rfl⟩
theorem St.wo_o {s : St} {G : Fp} {b : Nat} {y : Own} (h : (s.wo G).o b = some y) : s.o b = some y ∧ ¬ G b := by
 simp only [St.wo] at h
 split at h
 ·cases h
 ·exact ⟨h, by assumption⟩
theorem Bs.wo (s : St) (G : Fp) : Bs (s.wo G) s := ⟨fun _ => rfl, fun _ _ h => (St.wo_o h).1⟩
theorem Hp.takeT {sb s0 : St} {F0 : Fp} {s : St} {cs : List Ck} (h : Hp sb s0 F0 s cs) (is : List Nat) (hn : is.Nodup) :
  ∃ (F1 : Fp) (sx : St), Bs sb sx ∧ (∀ k, k ∉ is → ∃ F, (getC cs k).P sb sx F) ∧ Hp sx s F1 s (selC cs is) ∧ ∀ sb' s' ds, AllFree ds → Hp sb' s F1 s' ds → Hp sb s0 F0 s' (addC (rmC cs is) ds) := by
 obtain ⟨F, h1, h2, h3⟩ := h.ck
 have hbx : Bs sb (s.wo (cup F is)) := ⟨h.bs.g, fun b y hy => by
  have : ¬ cup F is b := fun ⟨i, _, hb⟩ => by rw [(h3 i b hb).sb] at hy; cases hy
  simp only [St.wo, this, if_false]
  exact h.bs.o b y hy⟩
 have hc1 : ∀ b, cup F is b → F0 b ∨ s0.dom b = false := fun b ⟨i, _, hb⟩ => (h3 i b hb).new
 refine ⟨cup F is, s.wo (cup F is), hbx, fun k hk => ⟨F k, (getC cs k).fr (h1 k) (Eqo.wo s _) fun b hb ⟨i, hi, hib⟩ => h2 k i (fun e => hk (e ▸ hi)) b hb hib⟩, ⟨Fr.refl _ _, Bs.wo _ _, Fsel F is, Fsel.P fun i => (getC cs i).up (h1 i) hbx, Fsel.dj hn h2, fun k b ⟨hk, hb⟩ => ?_⟩, fun sb' s' ds hfree hD => ?_⟩
 ·have := h3 _ b hb
  have hc : cup F is b := ⟨_, List.getElem_mem hk, hb⟩
  exact ⟨this.dom, this.g, by simp [St.wo, hc], .inl hc⟩
 ·obtain ⟨D, d1, d2, d3⟩ := hD.ck
  have dis : ∀ i k b, i ∉ is → F i b → ¬ D k b := fun i k b hi hb hd => by
   rcases (d3 k b hd).new with ⟨j, hj, hjb⟩ | hf
   ·exact h2 i j (fun e => hi (e ▸ hj)) b hb hjb
   ·have := (h3 i b hb).dom; rw [hf] at this; cases this
  have hnew : ∀ k b, D k b → F0 b ∨ s0.dom b = false := fun k b hb => by
   rcases (d3 k b hb).new with hc | hf
   ·exact hc1 b hc
   ·right
    cases e : s0.dom b with
    | false => rfl
    | true => have := h.fr.dom b e; rw [hf] at this; cases this
  refine ⟨h.fr.step hD.fr hc1, ⟨fun b => (hD.fr.g b).trans (h.bs.g b), fun b y hy => hD.fr.o b y (fun ⟨i, _, hb⟩ => by rw [(h3 i b hb).sb] at hy; cases hy) (h.bs.o b y hy)⟩, fun k => if k < cs.length then (if k ∈ is then no else F k) else D (k - cs.length), fun k => ?_, fun j k hjk b hb hb' => ?_, fun k b hb => ?_⟩
  ·rw [getC_addC, rmC_length]
   by_cases hk : k < cs.length
   ·simp only [hk, if_true]
    by_cases hki : k ∈ is
    ·simp only [hki, if_true]; rw [(getC_rmC is cs k).1 hki]; exact trivial
    ·simp only [hki, if_false]; rw [(getC_rmC is cs k).2 hki]
     exact (getC cs k).fr (h1 k) hD.fr.toEqo fun b hb ⟨i, hi, hib⟩ => h2 k i (fun e => hki (e ▸ hi)) b hb hib
   ·simp only [hk, if_false]
    by_cases hk2 : k - cs.length < ds.length
    ·have hm : ∀ (ds : List Ck) (j : Nat), j < ds.length → getC ds j ∈ ds := by
      intro ds
      induction ds with
      | nil => intro j hj; simp at hj
      | cons d ds ih =>
       intro j hj
       cases j with
       | zero => simp [getC]
       | succ j => simp only [getC]; exact List.mem_cons_of_mem _ (ih j (by simpa using hj))
     exact AllFree.free _ (hm ds _ hk2) (d1 _)
    ·rw [getC_out _ _ (by omega)]; exact trivial
  ·dsimp only at hb hb'
   split at hb
   ·split at hb
    ·exact hb.elim
    ·rename_i hj hji
     split at hb'
     ·split at hb'
      ·exact hb'.elim
      ·exact h2 j k hjk b hb hb'
     ·exact dis j _ b hji hb hb'
   ·split at hb'
    ·split at hb'
     ·exact hb'.elim
     ·rename_i hk hki
      exact dis k _ b hki hb' hb
    ·exact d2 _ _ (by omega) b hb hb'
  ·dsimp only at hb
   split at hb
   ·split at hb
    ·exact hb.elim
    ·have := h3 k b hb
     exact ⟨hD.fr.dom b this.dom, (hD.fr.g b).trans this.g, this.sb, this.new⟩
   ·have := d3 _ b hb
    refine ⟨this.dom, this.g, ?_, hnew _ b hb⟩
    rcases (d3 _ b hb).new with ⟨i, _, hib⟩ | hf
    ·exact (h3 i b hib).sb
    ·cases e : sb.o b with
     | none => rfl
     | some y => have := h.bs.o b y e; simp [St.dom, this] at hf
def Seps (cs : List Ck) (sb s : St) (F : Fp) : Prop := ∃ Fi : Nat → Fp, (∀ i, (getC cs i).P sb s (Fi i)) ∧ (∀ i j, i ≠ j → Dj (Fi i) (Fi j)) ∧ ∀ i b, Fi i b → F b
def Ent (sb s : St) (cs : List Ck) (d : Ck) : Prop := ∀ F, Seps cs sb s F → d.P sb s F
theorem Hp.conv {sb s0 : St} {F0 : Fp} {s : St} {cs : List Ck} (h : Hp sb s0 F0 s cs) (is : List Nat) (hn : is.Nodup) {d : Ck} (he : Ent sb s (selC cs is) d) : Hp sb s0 F0 s (addC (rmC cs is) [d]) := by
 obtain ⟨F1, hA, hB⟩ := h.take is hn
 refine hB sb s [d] (Up.refl _ _ _) ?_
 obtain ⟨F, h1, h2, h3⟩ := hA.ck
 refine ⟨hA.fr, hA.bs, fun k => if k = 0 then (fun b => ∃ i, F i b) else no, fun k => ?_, fun j k hjk b hb hb' => ?_, fun k b hb => ?_⟩
 ·cases k with
  | zero => exact he _ ⟨F, h1, h2, fun i b hb => ⟨i, hb⟩⟩
  | succ k => exact trivial
 ·dsimp only at hb hb'
  split at hb
  ·split at hb'
   ·omega
   ·exact hb'.elim
  ·exact hb.elim
 ·dsimp only at hb
  split at hb
  ·obtain ⟨i, hi⟩ := hb; exact h3 i b hi
  ·exact hb.elim
end Go.Proofs.GL

