/- A logic of what is known of memory, over the kit's weakest preconditions: one part. No conditions: lemmas. -/
import Derived.Test.YtbeolahmnoeicaaGreatDoorGU
set_option linter.unusedVariables false
set_option linter.unusedSimpArgs false
namespace Go.Proofs.GL
open Go
section
variable {α : Type} {P : Program} {ro : Bool} {s sb : St} {Kl : List Value → St → Prop} {l : List Value} {d : Option Tmp} {ty : TypeId} {pos : String} {af : Array Edge} {gd : Option (Nat × Bool)}
theorem o_iaddrA {x ix : Operand} {t e : TypeId} {z : Value} {sz by_ n : Nat} {b : Addr} {k : IntKind} {i : Int} (hx : evL l x = .pointer (some b)) (hi : evL l ix = .int k i) (hu : P.underlying t = some (.array n e)) (ht : TI P e z sz by_)
  (h0 : 0 ≤ i) (h1 : i < n) (h : Kl (yy l d (.pointer (some (b.add (i.toNat * sz))))) s) : HO P ro ⟨d, .indexAddr t x ix, ty, pos, af, gd⟩ l s Kl := by
 unfold HO execOp
 simp [hx, hi, Instr.indexAt, Instr.sureAddr, asIntOf, ye, GOk_map, yi, yn hu, GOk_sizeOf ht, h0, h1]
 exact h
theorem Rd.glob {K : Kd α} {b : Nat} {xs : List α} (hl : xs.length ≤ maxN) (h : ∀ i x, xs[i]? = some x → ∃ cs, K.rep s cs x ∧ ∀ j v, cs[j]? = some v → s.row b (i * K.sz + j) v) : Rd K s (some ⟨b, 0, none⟩) xs.length xs :=
 ⟨Nat.le_refl _, hl, fun _ => ⟨b, 0, rfl, fun i x hx => by simpa using h i x hx⟩⟩
theorem Rd.elA {K : Kd α} {b c : Nat} {xs : List α} {i : Int} {u : α} (hr : Rd K sb (some ⟨b, 0, none⟩) c xs) (hrd : rd? xs i = some u) : ∃ cs, K.rep sb cs u ∧ (∀ {s}, Mono sb s → ∀ j v, cs[j]? = some v → s.has ⟨b, i.toNat * K.sz + j, none⟩ v) ∧
  ∀ {P : Program} {ro : Bool} {l : List Value} {d : Option Tmp} {ty : TypeId} {pos : String} {af : Array Edge} {gd : Option (Nat × Bool)} {x ix : Operand} {t e : TypeId} {z : Value} {by_ n : Nat} {k : IntKind} {Kl : List Value → St → Prop} (s' : St),
   evL l x = .pointer (some ⟨b, 0, none⟩) → evL l ix = .int k i → P.underlying t = some (.array n e) → xs.length ≤ n → TI P e z K.sz by_ → Kl (yy l d (.pointer (some ⟨b, i.toNat * K.sz, none⟩))) s' → HO P ro ⟨d, .indexAddr t x ix, ty, pos, af, gd⟩ l s' Kl := by
 obtain ⟨h0, h1, h2⟩ := rd?_some hrd
 obtain ⟨b', o, hb, hc⟩ := hr.2.2 (fun e' => by rw [e'] at h1; simp at h1; omega)
 injection hb with hb
 injection hb with hb1 hb2 _
 subst hb1 hb2
 obtain ⟨cs, r1, r2⟩ := hc i.toNat u h2
 refine ⟨cs, r1, fun hm j v hj => ⟨rfl, .inl (hm _ _ _ (by simpa using r2 j v hj))⟩, ?_⟩
 intros
 rename_i hx hi hu hn ht h
 refine o_iaddrA hx hi hu ht h0 (by omega) ?_
 rw [addp, Nat.zero_add]
 exact h
end
def u8First : List Int := List.replicate 128 240 ++ List.replicate 66 241 ++ List.replicate 30 2 ++ [19, 3, 3, 3, 3, 3, 3, 3, 3, 3, 3, 3, 3, 35, 3, 3, 52, 4, 4, 4, 68] ++ List.replicate 11 241
theorem u8First_len : u8First.length = 256 := by decide +kernel
def u8Accept : List (Int × Int) := [(128, 191), (160, 191), (128, 159), (144, 191), (128, 143)] ++ List.replicate 11 (0, 0)
theorem u8Accept_len : u8Accept.length = 16 := by decide +kernel
end Go.Proofs.GL

