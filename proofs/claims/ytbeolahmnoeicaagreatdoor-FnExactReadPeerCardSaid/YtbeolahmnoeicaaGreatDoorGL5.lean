/- A logic of what is known of memory, over the kit's weakest preconditions: one part. No conditions: lemmas. -/
import Derived.Test.YtbeolahmnoeicaaGreatDoorGL4
set_option linter.unusedVariables false
set_option linter.unusedSimpArgs false
namespace Go.Proofs.GL
open Go
section
variable {P : Program} {ro : Bool} {l : List Value} {s : St} {Kl : List Value → St → Prop} {d : Option Tmp} {ty : TypeId} {pos : String} {af : Array Edge} {gd : Option (Nat × Bool)}
theorem addp (b o j : Nat) : (⟨b, o, none⟩ : Addr).add j = ⟨b, o + j, none⟩ := by
 unfold Addr.add
 by_cases h : j = 0 <;> simp [h]
theorem o_faddr {x : Operand} {T ft : TypeId} {fs : Array Field} {i off : Nat} {ad : Addr} {z : Value} {n by_ : Nat} (hx : evL l x = .pointer (some ad)) (hu : P.underlying T = some (.struct fs)) (hf : (fs[i]?).map (fun f => (f.type, f.offset)) = some (ft, off)) (ht : TI P ft z n by_) (hn : n ≠ 0)
  (h : Kl (yh l d (.pointer (some (ad.add off)))) s) : HO P ro ⟨d, .fieldAddr T x i, ty, pos, af, gd⟩ l s Kl := by
 obtain ⟨f, hf1, hf2⟩ := Option.map_eq_some_iff.1 hf
 simp only [Prod.mk.injEq] at hf2
 obtain ⟨rfl, rfl⟩ := hf2
 unfold HO execOp
 simp only [hx, Instr.fieldAt, y5, yb hu, hf1, Instr.sureAddr, y8, fieldPlace, GOk_sizeOf ht, if_neg hn]
 exact h
def szT (P : Program) (t : TypeId) : Nat := ((P.info? t).map (·.size)).getD 0
theorem GOk_sizeOf' {t : TypeId} (h : (P.info? t).isSome = true) (K : Nat → St → Prop) : GOk P ro (sizeOf t) s K ↔ K (szT P t) s := by
 obtain ⟨i, hi⟩ := Option.isSome_iff_exists.1 h
 unfold sizeOf
 rw [y5, GOk_typeInfo hi, y8]
 simp [szT, hi]
theorem GOk_places : ∀ (fs : List Field) (K : List (Nat × Nat) → St → Prop), fs.all (fun f => (P.info? f.type).isSome) = true → (GOk P ro (fs.mapM fun f => do pure (f.offset, ← sizeOf f.type)) s K ↔ K (fs.map fun f => (f.offset, szT P f.type)) s)
 | [], K, _ => by simp [y8]
 | f :: fs, K, h => by
  simp only [List.all_cons, Bool.and_eq_true] at h
  simp only [List.mapM_cons, y5, GOk_sizeOf' h.1, y8, List.map_cons]
  rw [GOk_places fs _ h.2]
theorem o_build {T : TypeId} {fs : List Field} {pl : List (Nat × Nat)} {parts : Array (Nat × Operand)} {z : Value} {n by_ : Nat} {cs : Array Value} (hu : P.underlying T = some (.struct fs.toArray)) (ht : TI P T z n by_) (ha : fs.all (fun f => (P.info? f.type).isSome) = true) (hpl : (fs.map fun f => (f.offset, szT P f.type)) = pl)
  (hc : Instr.fill (fun i => pl[i]?) z.cells (parts.toList.map fun p => (p.1, evL l p.2)) = some cs) (h : Kl (yh l d (.agg cs)) s) : HO P ro ⟨d, .build T parts, ty, pos, af, gd⟩ l s Kl := by
 unfold HO execOp
 have e : (fs.toArray.mapM fun f => (do pure (f.offset, ← sizeOf f.type) : Sem (Nat × Nat))) = (List.toArray <$> fs.mapM fun f => (do pure (f.offset, ← sizeOf f.type) : Sem (Nat × Nat))) := by simp [List.mapM_toArray]
 simp only [Instr.build, y5, GOk_zeroValue ht, yb hu, e, GOk_map, GOk_places fs _ ha, hpl]
 have e2 : (parts.map fun x => (x.1, evL l x.2)).toList = parts.toList.map fun p => (p.1, evL l p.2) := by simp
 have e3 : (fun x : Nat => pl.toArray[x]?) = fun i => pl[i]? := by funext i; simp
 rw [e2, e3, hc]
 exact h
theorem o_lit {t e : TypeId} {n : Nat} {parts : Array (Nat × Operand)} {z : Value} {sz by_ : Nat} {cs : Array Value} (hu : P.underlying t = some (.slice e)) (ht : TI P e z sz by_) (hn : n * sz ≤ 16777216) (hz : n * sz ≠ 0)
  (hc : Instr.fill (fun i => some (i * sz, sz)) ((Array.range (n * sz)).map (fun i => z.cells[i % z.cells.size]!)) (parts.toList.map fun p => (p.1, evL l p.2)) = some cs) (h : ∀ b, s.fresh b → Kl (yh l d (.slice (some ⟨b, 0, none⟩) n n)) (s.setO b ⟨cs.toList, cs.size, e⟩)) : HO P false ⟨d, .buildSlice t n parts, ty, pos, af, gd⟩ l s Kl := by
 unfold HO execOp
 have e2 : (parts.map fun x => (x.1, evL l x.2)).toList = parts.toList.map fun p => (p.1, evL l p.2) := by simp
 have hn' : ¬ (n * sz > 2 ^ 24) := by
  have e2 : (2 : Nat) ^ 24 = 16777216 := by decide
  omega
 simp only [Instr.buildSlice, y5, yb hu, GOk_sizeOf ht, if_neg hn', if_neg hz, GOk_zeroValue ht, y8, e2, hc, newRow, newObj]
 refine ⟨rfl, some cs.size, fun b hb => ?_⟩
 have e4 : (s.allocAs (some cs.size) b (.cells cs e)) = s.setO b ⟨cs.toList, cs.size, e⟩ := by
  show s.setO b ⟨cs.toList.take cs.size, cs.size, e⟩ = _
  rw [List.take_of_length_le (by simp)]
 rw [e4]
 exact h b hb
theorem o_lit0 {t e : TypeId} {z : Value} {sz by_ : Nat} (hu : P.underlying t = some (.slice e)) (ht : TI P e z sz by_) (h : ∀ b, s.fresh b → Kl (yh l d (.slice (some ⟨b, 0, none⟩) 0 0)) (s.setO b ⟨[], 0, e⟩)) : HO P false ⟨d, .buildSlice t 0 #[], ty, pos, af, gd⟩ l s Kl := by
 unfold HO execOp
 simp only [Instr.buildSlice, y5, yb hu, GOk_sizeOf ht, Nat.zero_mul, if_true, y8]
 rw [if_neg (by decide)]
 simp only [y5, y8]
 have e1 : (Array.map (fun x => (#[] : Array Value)[x % (#[] : Array Value).size]!) (Array.range 0)) = #[] := by simp
 have e2 : (Array.map (fun x : Nat × Operand => (x.1, evL l x.2)) #[]).toList = [] := by simp
 simp only [e1, e2, Instr.fill, newRow, newObj, y5, y8]
 refine ⟨rfl, some 0, fun b hb => ?_⟩
 exact h b hb
theorem o_conv {x : Operand} {st dt : TypeId} {sd : TypeDesc} {k k' : IntKind} {n : Int} (hx : evL l x = .int k n) (hs : P.underlying st = some sd) (hd : P.underlying dt = some (.int k')) (h : Kl (yh l d (.int k' (k'.wrap n))) s) : HO P ro ⟨d, .convert st dt x, ty, pos, af, gd⟩ l s Kl := by
 unfold HO execOp
 simp only [hx, convert, y5, yb hs, yb hd]
 cases sd <;> exact h
end
end Go.Proofs.GL

