/- A logic of what is known of memory, over the kit's weakest preconditions: one part. No conditions: lemmas. -/
import Derived.Test.YtbeolahmnoeicaaGreatGY
set_option autoImplicit false
set_option relaxedAutoImplicit false
set_option linter.unusedVariables false
set_option linter.unusedSimpArgs false
namespace Go.Proofs.GL
open Go
section
variable {P : Program} {l : List Value} {s : St} {d : Option Tmp} {ty : TypeId} {pos : String} {af : Array Edge} {gd : Option (Nat × Bool)} {Kl : List Value → St → Prop}
end
class Ow.Bd {α : Type} {K : Kd α} (O : Ow K) : Prop where
 bd : ∀ {sb s F cs x}, O.own sb s F cs x → K.rep sb cs x
instance {α : Type} {K : Kd α} : (Ow.lent K).Bd := ⟨fun h => h⟩
instance {α : Type} {K : Kd α} (hf : K.Flat) : (Ow.flat hf).Bd := ⟨fun h => hf _ _ _ _ h⟩
instance {α β : Type} {K : Kd α} {L : Kd β} (O : Ow K) (O' : Ow L) [O.Bd] [O'.Bd] : (Ow.pair O O').Bd := ⟨by
 rintro sb s F cs x ⟨c1, c2, h, F1, F2, _, _, _, h1, h2⟩; exact ⟨c1, c2, h, Ow.Bd.bd h1, Ow.Bd.bd h2⟩⟩
theorem Hp.eloL {α : Type} {sb s0 s : St} {F0 : Fp} {cs : List Ck} {K : Kd α} {O : Ow K} [O.Bd] {e' A c} {xs : List α} {i : Int} {u : α} (h : Hp sb s0 F0 s cs) (k : Nat) (hk : yy cs k = Ck.ol O e' A c xs) (hrd : rd? xs i = some u) : ∃ b o cs1, A = some ⟨b, o, none⟩ ∧ K.rep sb cs1 u ∧ (∀ j v, cs1[j]? = some v → s.has ⟨b, o + i.toNat * K.sz + j, none⟩ v) ∧
  ∀ {P : Program} {ro : Bool} {l : List Value} {d : Option Tmp} {ty : TypeId} {pos : String} {af : Array Edge} {gd : Option (Nat × Bool)} {x ix : Operand} {t e : TypeId} {z : Value} {by_ : Nat} {k : IntKind} {Kl : List Value → St → Prop} (s' : St),
   evL l x = .slice A xs.length c → evL l ix = .int k i → P.underlying t = some (.slice e) → TI P e z K.sz by_ → Kl (yv l d (.pointer (some ⟨b, o + i.toNat * K.sz, none⟩))) s' → HO P ro ⟨d, .indexAddr t x ix, ty, pos, af, gd⟩ l s' Kl := by
 obtain ⟨h0, h1, h2⟩ := rd?_some hrd
 obtain ⟨F, hc, _⟩ := h.ck
 have hc := hc k
 rw [hk] at hc
 rcases hc with ⟨rfl, rfl⟩ | ⟨b, o, y, rfl, ho, _, _, hr, hc, hm, hl, FE, he, _⟩
 ·simp at h2
 ·refine ⟨b, o, _, rfl, Ow.Bd.bd (he _ _ h2), fun j v hj => ⟨rfl, .inl (.inr ⟨_, ho, getElem?_drop_take hj⟩)⟩, ?_⟩
  intros
  rename_i hx hi hu ht h
  refine o_iaddr hx hi hu ht h0 h1 ?_
  rw [addp]
  exact h
end Go.Proofs.GL

