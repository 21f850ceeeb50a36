/- A logic of what is known of memory, over the kit's weakest preconditions: one part. No conditions: lemmas. -/
import Derived.Test.YtbeolahmnoeicaaGreatDoorGH
set_option autoImplicit false
set_option relaxedAutoImplicit false
set_option linter.unusedVariables false
set_option linter.unusedSimpArgs false
namespace Go.Proofs.GL
open Go
def textB (xs : List Int) : ByteArray := xs.foldl (fun s n => s.push (UInt8.ofNat n.toNat)) .empty
def y3 (s : ByteArray) : List Int := s.data.toList.map fun b => (b.toNat : Int)
theorem bytesB_len (s : ByteArray) : (y3 s).length = s.size := by
 unfold y3
 simp
section
variable {P : Program} {ro : Bool} {s : St} {Kl : List Value → St → Prop} {l : List Value} {d : Option Tmp} {ty : TypeId} {pos : String} {af : Array Edge} {gd : Option (Nat × Bool)}
theorem GOk_pushes (KU : ByteArray → St → Prop) : ∀ (xs : List Int) (acc : ByteArray), KU (xs.foldl (fun s n => s.push (UInt8.ofNat n.toNat)) acc) s →
  GOk P ro (forIn (xs.map fun n => Value.int .u8 n) acc (fun c r => do
   let s := r
   match c with
   | .int .u8 n => pure (ForInStep.yield (s.push (UInt8.ofNat n.toNat)))
   | _ => stuck "bytesToString: byte expected")) s KU := by
 intro xs
 induction xs with
 | nil => intro acc h; simpa [y8] using h
 | cons x xs ih =>
  intro acc h
  rw [List.map_cons, List.forIn_cons]
  simp only [y5, y8]
  exact ih _ h
theorem o_b2s {x : Operand} {st dt e : TypeId} {A : Option Addr} {c : Nat} {xs : List Int} (hx : evL l x = .slice A xs.length c) (hs : P.underlying st = some (.slice e)) (he : P.underlying e = some (.int .u8)) (hd : P.underlying dt = some .string) (hr : Rd (Kd.int .u8) s A c xs) (h : Kl (yh l d (.string (textB xs))) s) : HO P ro ⟨d, .convert st dt x, ty, pos, af, gd⟩ l s Kl := by
 unfold HO execOp
 simp only [hx, convert, y5, yb hs, yb hd, yb he, Conv.bytesToString]
 obtain ⟨cs, h1, h2, h3, h4⟩ := hr.cells
 have hcs : cs = xs.map fun n => Value.int .u8 n := by
  apply List.ext_getElem?
  intro i
  have hl : cs.length = xs.length := by rw [h1]; exact Nat.mul_one _
  rw [List.getElem?_map]
  cases hi : xs[i]? with
  | none =>
   rw [List.getElem?_eq_none_iff] at hi
   rw [List.getElem?_eq_none (by omega)]
   rfl
  | some x =>
   have h5 : ((cs.drop (i * 1)).take 1) = [Value.int .u8 x] := h3 i x hi
   have := congrArg (fun q => q[0]?) h5
   simpa using this
 cases A with
 | none =>
  have : xs = [] := by
   cases xs with
   | nil => rfl
   | cons a as =>
    obtain ⟨b, o, h5, _⟩ := h4 (by simp)
    cases h5
  subst this
  exact h
 | some a =>
  simp only [y5]
  refine GOk_loadCells (s := s) (cs := cs) (by rw [h1]; exact (Nat.mul_one _).symm) ?_ ?_
  ·by_cases hx0 : xs = []
   ·subst hx0
    subst hcs
    intro j v hj
    simp at hj
   ·obtain ⟨b, o, h5, h6⟩ := h4 hx0
    cases h5
    exact h6
  ·rw [hcs, List.forIn_toArray]
   exact GOk_pushes _ xs _ h
end
end Go.Proofs.GL

