/- A logic of what is known of memory, over the kit's weakest preconditions: one part. No conditions: lemmas. -/
import Derived.Test.YtbeolahmnoeicaaGreatDoorShelf
import Derived.Test.YtbeolahmnoeicaaGreatDoorGX2
import Derived.Lib.SplitLaws
import Derived.Lib.CutLaws
import Derived.Lib.IndexLaws
import Derived.Lib.CountLaws
import Derived.Lib.ItoaNum
import Derived.Lib.Strings
import Derived.Lib.AtoiAll
import Derived.Lib.AtoiErrMem
import Derived.Lib.SmallJoins
import Derived.Lib.FrozenHead2
import Derived.Lib.OthersKept
import Derived.Lib.UnsafeStr
import Derived.Laws.Externs
import Derived.WalkKit
import Derived.BigCall
import Derived.WideMake
namespace Go.Proofs.YtbeolahmnoeicaaGreatDoor
open Go Go.Shelf Go.RowKit Go.Proofs.GL
set_option maxHeartbeats 8000000
set_option maxRecDepth 100000
set_option linter.unusedVariables false
set_option linter.unusedSimpArgs false
set_option maxHeartbeats 4000000
set_option maxRecDepth 100000
theorem bld_check (B b : Nat) (bs : List Value) (w : World) (h : Lib.IsBuilderF 222 5 B b bs w) :
  Calls Tryz.prog 239 #[.pointer (some ⟨b, 0, none⟩)] w fun e w' => e = .returned (.tuple #[]) ∧ (Lib.BuilderAtF 222 5 B b (.pointer (some ⟨b, 0, none⟩)) bs w' ∧ Below B w w' ∧ Lib.OthersKept 5 (some b) w w') := by
 have mixed : Tryz.prog.follows .mixedOrders = true := by kernel_rfl
 obtain ⟨j, hj, hjs⟩ : ∃ j, Tryz.prog.info? 222 = some j ∧ j.size = 2 := Option.map_eq_some_iff.1 (show (Tryz.prog.info? 222).map (·.size) = some 2 by kernel_rfl)
 rcases h with h | h
 ·have h0 := h.cell0
  have hfz := h.frozen0
  have hsh := h.shape
  go_enter Tryz.func239, Tryz.ntmps239
  go_wp2
  rw [Lib.run_to_unsafe w ⟨b, 0, none⟩ Tryz.underlying220 Tryz.underlying274 hj (by rw [hjs]; decide) h.shape (Nat.zero_lt_succ 1)]
  simp only [Result.andThen]
  rw [Oper.upon_value]
  go_wp2
  rw [run_callFunc_extern Tryz.func273 (by kernel_rfl) (by kernel_rfl) (by kernel_rfl) (e := Extern.AbiNoEscape.same) (by kernel_rfl)]
  rw [Lib.run_noEscape]
  simp only [Result.andThen]
  rw [Oper.upon_value]
  go_wp2
  rw [Lib.run_from_unsafe w ⟨b, 0, none⟩ Tryz.underlying274 Tryz.underlying220 hj h.shape (by kernel_rfl)]
  simp only [Result.andThen]
  rw [Oper.upon_value]
  go_wp2
  go_end0
  exact ⟨rfl, h.used _, (Below.refl B w).setCell (p := ⟨b, 0, none⟩) h.1 _, (Lib.OthersKept.refl _ _ w).setCell ⟨b, 0, none⟩ rfl _⟩
 ·have h0 := h.cell0
  go_enter Tryz.func239, Tryz.ntmps239
  go_wp2
  rw [Lib.run_neq_ptr_same w _ Tryz.underlying220 hj]
  go_wp2
  go_end0
  exact ⟨rfl, h, Below.refl B _, Lib.OthersKept.refl _ _ _⟩
theorem bld_cells {b : Nat} {x v : Value} {w : World} (h : w.heap[b]? = some (.cells #[x, v] 222 (0, 0))) : w.cell? ⟨b, 0, none⟩ = some x ∧ w.cell? ⟨b, 1, none⟩ = some v ∧ w.frozen? ⟨b, 1, none⟩ = false :=
 ⟨by rw [Lib.cell_of_heap h]; rfl, by rw [Lib.cell_of_heap h]; rfl, Lib.frozen_of_heap h 1⟩
theorem bld_lt {b : Nat} {o : Obj} {w : World} (h : w.heap[b]? = some o) : b < w.heap.size := (Array.getElem?_eq_some_iff.1 h).1
theorem row_kept {w w' : World} {B e z n : Nat} {v : Value} {xs : List Value} (h : w.ownsRowF B e z v n xs) (hb : Below w.heap.size w w') : w'.ownsRowF B e z v n xs := by
 obtain ⟨h1, h2⟩ := h
 refine ⟨h1, ?_⟩
 rcases h2 with h2 | ⟨g, cap, cur, fz, hv, hB, hg, r⟩
 ·exact .inl h2
 ·exact .inr ⟨g, cap, cur, fz, hv, hB, (hb.block g (bld_lt hg)).trans hg, r⟩
theorem bld_at {T e : TypeId} {B b : Nat} {p : Value} {bs : List Value} {w w' : World} (h : Lib.BuilderAtF T e B b p bs w) (hb : Below w.heap.size w w') : Lib.BuilderAtF T e B b p bs w' := by
 obtain ⟨h1, v, h2, h3, h4⟩ := h
 exact ⟨h1, v, (hb.block b (bld_lt h2)).trans h2, row_kept h3 hb, h4⟩
theorem bld_kept {T e : TypeId} {B b : Nat} {bs : List Value} {w w' : World} (h : Lib.IsBuilderF T e B b bs w) (hb : Below w.heap.size w w') : Lib.IsBuilderF T e B b bs w' := h.elim (fun h => .inl (bld_at h hb)) (fun h => .inr (bld_at h hb))
theorem bld_byte (B b : Nat) (bs : List Value) (c : Int) (w : World) (h : Lib.IsBuilderF 222 5 B b bs w) (hlen : bs.length + 1 ≤ 140737488355328) (hBw : B ≤ w.heap.size) :
  Calls Tryz.prog 267 #[.pointer (some ⟨b, 0, none⟩), .int .u8 c] w fun e w' => e = .returned .nilIface ∧ (Lib.BuilderAtF 222 5 B b (.pointer (some ⟨b, 0, none⟩)) (bs ++ [.int .u8 c]) w' ∧ Below B w w' ∧ Lib.OthersKept 5 (some b) w w') := by
 have mixed : Tryz.prog.follows .mixedOrders = true := by kernel_rfl
 obtain ⟨i0, hi, hz0, hz1, hz2⟩ := info_parts (show (Tryz.prog.info? 5).map (fun i => (i.zero, i.size, i.bytes)) = some (some (.int .u8 0), 1, 1) by kernel_rfl)
 go_enter Tryz.func267, Tryz.ntmps267
 go_wp2_with (go_at_call 239; refine (bld_check B b bs _ h).mono ?_)
 rintro e w1 ⟨rfl, ⟨hB, v, hbk, hown, hne⟩, hb1, hk1⟩
 obtain ⟨c0, c1, _⟩ := bld_cells hbk
 have hsz := hb1.size
 go_wp2_with (at_builtin; refine wpList_append_ownF _ rfl _ _ 22 rfl B 5 i0 (.int .u8 0) 1 1 Tryz.underlying22 hi hz0 hz1 hz2 rfl (by decide) _ _ _ rfl (hown.alloc _) ⟨w1.heap.size, 0, none⟩ 1 1 [.int .u8 c] rfl rfl ?a1 ?a2 ?a3 ?a4 ?a5 ?_)
 case a1 =>
  intro j u hj
  cases j with
  | zero => simp at hj; subst hj; simp [Addr.add]
  | succ j => simp at hj
 case a2 => intro u hu; simp at hu; subst hu; rfl
 case a3 => unfold maxLen; omega
 case a4 => omega
 case a5 => simp; omega
 intro v' w2 hown' hgrow _
 have hb2 : w2.heap[b]? = some (.cells #[.pointer (some ⟨b, 0, none⟩), v] 222 (0, 0)) := by
  have hl := bld_lt hbk
  rw [hgrow.block b (by simp; omega) (fun e => hne e.symm), Lib.alloc_old w1 _ b hl]
  exact hbk
 obtain ⟨d0, d1, f1⟩ := bld_cells hb2
 obtain ⟨g, cap, rfl⟩ : ∃ g cap, v' = .slice (some ⟨g, 0, none⟩) (bs.length + 1) cap := by
  rcases hown'.2 with ⟨_, h0⟩ | ⟨g, cap, _, _, hv, _⟩
  ·omega
  ·exact ⟨g, cap, hv⟩
 go_wp2
 go_ret
 exact ⟨rfl, Lib.BuilderAtF.put (T := 222) (e := 5) hB hb2 (bs' := bs ++ [.int .u8 c]) (by simpa using hown') (by decide), ((hb1.alloc (by omega) _).grown hgrow (by simp; omega) (fun k hk => (hown.lt k hk).1)).setCell (p := ⟨b, 1, none⟩) hB _, ((hk1.alloc _).grown hgrow (Lib.ownsRowF_kind (hown.alloc _))).setCell ⟨b, 1, none⟩ rfl _⟩
theorem bld_text (B b : Nat) (bs : List Value) (s : ByteArray) (w : World) (h : Lib.IsBuilderF 222 5 B b bs w) (hlen : bs.length + s.size ≤ 140737488355328) (hBw : B ≤ w.heap.size) :
  Calls Tryz.prog 209 #[.pointer (some ⟨b, 0, none⟩), .string s] w fun e w' => e = .returned (.tuple #[.int .i64 s.size, .nilIface]) ∧ (Lib.BuilderAtF 222 5 B b (.pointer (some ⟨b, 0, none⟩)) (bs ++ Lib.strCells s) w' ∧ Below B w w' ∧ Lib.OthersKept 5 (some b) w w') := by
 have mixed : Tryz.prog.follows .mixedOrders = true := by kernel_rfl
 obtain ⟨i0, hi, hz0, hz1, hz2⟩ := info_parts (show (Tryz.prog.info? 5).map (fun i => (i.zero, i.size, i.bytes)) = some (some (.int .u8 0), 1, 1) by kernel_rfl)
 go_enter Tryz.func209, Tryz.ntmps209
 go_wp2_with (go_at_call 239; refine (bld_check B b bs _ h).mono ?_)
 rintro e w1 ⟨rfl, ⟨hB, v, hbk, hown, hne⟩, hb1, hk1⟩
 obtain ⟨c0, c1, _⟩ := bld_cells hbk
 have hsz := hb1.size
 go_wp2_with (at_builtin; refine Lib.wpList_append_own_stringF _ rfl _ _ 22 9 rfl B 5 i0 Tryz.underlying22 Tryz.underlying9 hi hz0 hz1 hz2 _ _ _ rfl hown s rfl ?a3 ?a4 ?a5 ?_)
 case a3 => unfold maxLen; omega
 case a4 => omega
 case a5 => omega
 intro v' w2 hown' hgrow _
 have hb2 : w2.heap[b]? = some (.cells #[.pointer (some ⟨b, 0, none⟩), v] 222 (0, 0)) := by
  rw [hgrow.block b (bld_lt hbk) (fun e => hne e.symm)]
  exact hbk
 obtain ⟨d0, d1, f1⟩ := bld_cells hb2
 obtain ⟨ao, n', cap, rfl⟩ : ∃ ao n' cap, v' = .slice ao n' cap := by
  rcases hown'.2 with ⟨hv, _⟩ | ⟨_, _, _, _, hv, _⟩
  ·exact ⟨_, _, _, hv⟩
  ·exact ⟨_, _, _, hv⟩
 go_wp2
 go_ret2
 exact ⟨rfl, Lib.BuilderAtF.put (T := 222) (e := 5) hB hb2 (bs' := bs ++ Lib.strCells s) (by simpa [Lib.strCells_length] using hown') (by decide), (hb1.grown hgrow (by omega) (fun k hk => (hown.lt k hk).1)).setCell (p := ⟨b, 1, none⟩) hB _, (hk1.grown hgrow (Lib.ownsRowF_kind hown)).setCell ⟨b, 1, none⟩ rfl _⟩
theorem map_put {P : Program} {w : World} {mty kt et : TypeId} {es : Array MapEntry} {clock : Nat} {kb : Bool} {v : Value} (hm : P.underlying mty = some (.map kt et)) (hk : P.underlying kt = some .bool) (hf : Instr.findNow .bool (.bool kb) es.toList 0 = some none) :
  (Instr.mapUpdate mty (.map (some w.heap.size)) (.bool kb) v).run P (w.alloc (.map es clock)) = .ok () (w.alloc (.map (es.push ⟨.bool kb, v, clock⟩) (clock + 1))) := by
 have hb : (w.alloc (.map es clock)).heap[w.heap.size]? = some (.map es clock) := by show (w.heap.push _)[w.heap.size]? = _; simp
 have hc : (Instr.checkKey false 10000 kt (.bool kb)).run P (w.alloc (.map es clock)) = .ok () (w.alloc (.map es clock)) := MapKept.run_checkKey (k := .bool kb) hk (by simp [MapKept.IsKey]) false 9999
 simp [Instr.mapUpdate, run_underlying hm, MapKept.run_getObj_map hb, hc, MapKept.run_findKey hk hf, MapKept.run_setObj_map _ hb, Result.andThen]
 have hp : (w.heap.push (Obj.map es clock)).setIfInBounds w.heap.size (Obj.map (es.push ⟨.bool kb, v, clock⟩) (clock + 1)) = w.heap.push (Obj.map (es.push ⟨.bool kb, v, clock⟩) (clock + 1)) := by
  apply Array.ext'
  simp [List.set_append_right]
 show ({ w with heap := (w.heap.push (Obj.map es clock)).setIfInBounds w.heap.size (Obj.map (es.push ⟨.bool kb, v, clock⟩) (clock + 1)) } : World) = { w with heap := w.heap.push (Obj.map (es.push ⟨.bool kb, v, clock⟩) (clock + 1)) }
 rw [hp]
theorem map_get {P : Program} {w : World} {mty kt et : TypeId} {es : Array MapEntry} {clock i : Nat} {kb : Bool} {v : Value} (hm : P.underlying mty = some (.map kt et)) (hk : P.underlying kt = some .bool) (hf : Instr.findNow .bool (.bool kb) es.toList 0 = some (some (i, v))) :
  (Instr.lookup mty (.map (some w.heap.size)) (.bool kb) false).run P (w.alloc (.map es clock)) = .ok v (w.alloc (.map es clock)) := by
 have hb : (w.alloc (.map es clock)).heap[w.heap.size]? = some (.map es clock) := by show (w.heap.push _)[w.heap.size]? = _; simp
 have hc : ∀ e, (Instr.checkKey e 10000 kt (.bool kb)).run P (w.alloc (.map es clock)) = .ok () (w.alloc (.map es clock)) := fun e => MapKept.run_checkKey (k := .bool kb) hk (by simp [MapKept.IsKey]) e 9999
 simp [Instr.lookup, run_underlying hm, MapKept.run_getObj_map hb, hc, MapKept.run_findKey hk hf, Result.andThen]
theorem bld_set {b ob : Nat} {B : Nat} {p x v : Value} {bs : List Value} {w : World} (h : Lib.BuilderAtF 222 5 B b p bs w) (ho : w.heap[ob]? = some (.cells #[x] 4 (0, 0))) (hne : ob ≠ b) : Lib.BuilderAtF 222 5 B b p bs (w.setCell ⟨ob, 0, none⟩ v) := by
 obtain ⟨h1, u, h2, ⟨h3, h4⟩, h5⟩ := h
 refine ⟨h1, u, by rw [setCell_heap, if_neg (fun e => hne e.symm)]; exact h2, ⟨h3, ?_⟩, h5⟩
 rcases h4 with h4 | ⟨g, cap, cur, fz, hv, hB, hg, r⟩
 ·exact .inl h4
 ·refine .inr ⟨g, cap, cur, fz, hv, hB, ?_, r⟩
  rw [setCell_heap, if_neg]
  ·exact hg
  ·rintro rfl
   rw [ho] at hg
   cases hg
def tnR (cur t : Bool) : List UInt8 := if cur = t then [] else [if t = true then 14 else 15]
theorem turn_calls (B b ob : Nat) (t cur : Bool) (acc : List UInt8) (w : World) (hI : Lib.IsBuilderF 222 5 B b (Lib.byteCells acc) w) (ho : w.heap[ob]? = some (.cells #[.bool cur] 4 (0, 0))) (hne : ob ≠ b) (hB : B ≤ ob) (hl : acc.length + 1 ≤ 140737488355328) (hBw : B ≤ w.heap.size) :
  Calls Tryz.prog 296 #[.bool t, .pointer (some ⟨ob, 0, none⟩), .pointer (some ⟨b, 0, none⟩)] w fun e w' => e = .returned (.tuple #[]) ∧ Lib.IsBuilderF 222 5 B b (Lib.byteCells (acc ++ tnR cur t)) w' ∧ w'.heap[ob]? = some (.cells #[.bool t] 4 (0, 0)) ∧ Below B w w' := by
 have c0 : w.cell? ⟨ob, 0, none⟩ = some (.bool cur) := by rw [Lib.cell_of_heap ho]; rfl
 have hf0 : w.frozen? ⟨ob, 0, none⟩ = false := Lib.frozen_of_heap ho 0
 have hcl := Lib.byteCells_length acc
 by_cases hct : cur = t
 ·subst hct
  go_enter Tryz.func296, Tryz.ntmps296
  go_wp2
  go_end0
  exact ⟨rfl, by simpa [tnR] using hI, ho, Below.refl _ _⟩
 ·have hct' : cur = !t := by cases cur <;> cases t <;> simp_all
  have hmm := @run_makeMap Tryz.prog
  have h1 : (Instr.mapUpdate 292 (.map (some w.heap.size)) (.bool true) (.int .u8 14)).run Tryz.prog (w.alloc (.map #[] 0)) = .ok () (w.alloc (.map #[⟨.bool true, .int .u8 14, 0⟩] 1)) := map_put (w := w) Tryz.underlying292 Tryz.underlying4 rfl
  have h2 : (Instr.mapUpdate 292 (.map (some w.heap.size)) (.bool false) (.int .u8 15)).run Tryz.prog (w.alloc (.map #[⟨.bool true, .int .u8 14, 0⟩] 1)) = .ok () (w.alloc (.map #[⟨.bool true, .int .u8 14, 0⟩, ⟨.bool false, .int .u8 15, 1⟩] 2)) := map_put (w := w) Tryz.underlying292 Tryz.underlying4 rfl
  have h3 : (Instr.lookup 292 (.map (some w.heap.size)) (.bool t) false).run Tryz.prog (w.alloc (.map #[⟨.bool true, .int .u8 14, 0⟩, ⟨.bool false, .int .u8 15, 1⟩] 2)) = .ok (.int .u8 (if t = true then 14 else 15)) (w.alloc (.map #[⟨.bool true, .int .u8 14, 0⟩, ⟨.bool false, .int .u8 15, 1⟩] 2)) := by
   cases t
   ·exact map_get (w := w) (i := 1) Tryz.underlying292 Tryz.underlying4 rfl
   ·exact map_get (w := w) (i := 0) Tryz.underlying292 Tryz.underlying4 rfl
  have hlo : ob < w.heap.size := bld_lt ho
  have hI2 := hI.alloc (.map #[⟨.bool true, .int .u8 14, 0⟩, ⟨.bool false, .int .u8 15, 1⟩] 2)
  have ho2 : (w.alloc (.map #[⟨.bool true, .int .u8 14, 0⟩, ⟨.bool false, .int .u8 15, 1⟩] 2)).heap[ob]? = some (.cells #[.bool cur] 4 (0, 0)) := by rw [Lib.alloc_old w _ ob hlo]; exact ho
  have hb2 : Below B w (w.alloc (.map #[⟨.bool true, .int .u8 14, 0⟩, ⟨.bool false, .int .u8 15, 1⟩] 2)) := (Below.refl B w).alloc hBw _
  generalize hw2 : w.alloc (.map #[⟨.bool true, .int .u8 14, 0⟩, ⟨.bool false, .int .u8 15, 1⟩] 2) = w2 at h2 h3 hI2 ho2 hb2
  go_enter Tryz.func296, Tryz.ntmps296
  have hneq : (cur != t) = true := by rw [hct']; cases t <;> rfl
  have hne' : some ob ≠ some b := fun e => hne (Option.some.inj e)
  cases t with
  | false =>
   go_wp2_with (go_at_call 267; refine (bld_byte B b _ _ _ hI2 (by rw [hcl]; omega) (Nat.le_trans hBw hb2.size)).mono ?_)
   first
    | (intro e W1 he k1 k2 k3; subst he)
    | (rintro e W1 ⟨rfl, k1, k2, k3⟩)
   have hW := k3 ob _ ho2 hne' (fun _ _ e => by cases e)
   have d0 : W1.cell? ⟨ob, 0, none⟩ = some (.bool cur) := by rw [Lib.cell_of_heap hW]; rfl
   have d1 : W1.frozen? ⟨ob, 0, none⟩ = false := Lib.frozen_of_heap hW 0
   go_wp2
   go_end0
   refine ⟨rfl, ?_, ?_, (hb2.trans k2).setCell (p := ⟨ob, 0, none⟩) hB _⟩
   ·rw [tnR, if_neg hct, Lib.byteCells_append]
    exact Or.inr (bld_set k1 hW hne)
   ·rw [setCell_heap, if_pos rfl, hW]
    rfl
  | true =>
   go_wp2_with (go_at_call 267; refine (bld_byte B b _ _ _ hI2 (by rw [hcl]; omega) (Nat.le_trans hBw hb2.size)).mono ?_)
   first
    | (intro e W1 he k1 k2 k3; subst he)
    | (rintro e W1 ⟨rfl, k1, k2, k3⟩)
   have hW := k3 ob _ ho2 hne' (fun _ _ e => by cases e)
   have d0 : W1.cell? ⟨ob, 0, none⟩ = some (.bool cur) := by rw [Lib.cell_of_heap hW]; rfl
   have d1 : W1.frozen? ⟨ob, 0, none⟩ = false := Lib.frozen_of_heap hW 0
   go_wp2
   go_end0
   refine ⟨rfl, ?_, ?_, (hb2.trans k2).setCell (p := ⟨ob, 0, none⟩) hB _⟩
   ·rw [tnR, if_neg hct, Lib.byteCells_append]
    exact Or.inr (bld_set k1 hW hne)
   ·rw [setCell_heap, if_pos rfl, hW]
    rfl
def b8 (r : Int) : UInt8 := (r % 256).toNat.toUInt8
def shR : List Int → Bool → List UInt8 → List UInt8
 | [], on, acc => acc ++ tnR on false
 | r :: l, on, acc => if r < 32 then shR l on (acc ++ [b8 r]) else if r < 127 then shR l false ((acc ++ tnR on false) ++ [b8 r]) else shR l true ((acc ++ tnR on true) ++ [b8 (r - 12352 + 32)])
theorem tnR_len (a b : Bool) : (tnR a b).length ≤ 1 := by unfold tnR; split <;> simp
theorem b8_cells (acc : List UInt8) (r : Int) : Lib.byteCells (acc ++ [b8 r]) = Lib.byteCells acc ++ [Value.int .u8 (r % 256)] := by
 rw [Lib.byteCells_append]
 congr 1
 simp [Lib.byteCells, b8]
 omega
theorem b8_cells' (acc : List UInt8) (r : Int) (h0 : 0 ≤ r) (h1 : r < 256) : Lib.byteCells (acc ++ [b8 r]) = Lib.byteCells acc ++ [Value.int .u8 r] := by
 rw [b8_cells, Int.emod_eq_of_lt h0 h1]
theorem al_at (w : World) (p q : Obj) : ((w.alloc p).alloc q).heap[w.heap.size + 1]? = some q := by
 rw [← show (w.alloc p).heap.size = w.heap.size + 1 from Array.size_push ..]
 exact Array.getElem?_push_size
theorem al_sz (w : World) (p : Obj) : w.heap.size ≤ (w.alloc p).heap.size := by
 rw [show (w.alloc p).heap.size = w.heap.size + 1 from Array.size_push ..]
 exact Nat.le_succ _
theorem shifting_calls (A : Option Addr) (c : Nat) (xs : List Int) (hl : xs.length ≤ 1000) (hr : ∀ x ∈ xs, 0 ≤ x ∧ x ≤ 1114111) (w : World) (hA : xs ≠ [] → ∃ b o, A = some ⟨b, o, none⟩ ∧ b < w.heap.size ∧ ∀ (i : Nat) x, xs[i]? = some x → w.cell? ⟨b, o + i, none⟩ = some (.int .i64 x)) :
  Calls Tryz.prog 265 #[.slice A xs.length c] w fun e w' => e = .returned (.string ⟨(shR xs false []).toArray⟩) ∧ Below w.heap.size w w' := by
 obtain ⟨X, hX⟩ : ∃ X, shR xs false [] = X := ⟨_, rfl⟩
 rw [hX]
 go_enter Tryz.func265, Tryz.ntmps265
 go_wp2
 go_loopw [11] (fun v wr => ∃ (k : Nat) (acc : List UInt8) (on : Bool), k ≤ xs.length ∧ v = .int .i64 k ∧ Lib.IsBuilderF 222 5 w.heap.size w.heap.size (Lib.byteCells acc) wr ∧ wr.heap[w.heap.size + 1]? = some (.cells #[.bool on] 4 (0, 0)) ∧ Below w.heap.size w wr ∧ shR (xs.drop k) on acc = X ∧ acc.length ≤ 2 * k) (fun v wr => xs.length - (intOf v).toNat)
 case atStart =>
  exact ⟨0, [], false, Nat.zero_le _, rfl, ((Lib.IsBuilderF.of (Lib.fresh_isBuilder 222 5 w)).alloc _), al_at w _ _, ((Below.refl _ w).alloc (Nat.le_refl _) _).alloc (al_sz w _) _, hX, by simp⟩
 case round =>
  obtain ⟨k, acc, on, hk, rfl, hI, ho, hbw, hE, hal⟩ := hrel
  have hsz := hbw.size
  have hcl := Lib.byteCells_length acc
  by_cases hlt : k < xs.length
  ·obtain ⟨b, o, rfl, hb, hx⟩ := hA (by rintro rfl; exact absurd hlt (Nat.not_lt_zero _))
   have hc : wr.cell? ⟨b, o + k, none⟩ = some (.int .i64 xs[k]) := by
    rw [hbw.cell hb]
    exact hx k _ (List.getElem?_eq_getElem hlt)
   obtain ⟨r0, r1⟩ := hr _ (List.getElem_mem hlt)
   rw [List.drop_eq_getElem_cons hlt] at hE
   generalize xs[k] = r at hc r0 r1 hE
   unfold shR at hE
   by_cases c1 : r < 32
   ·rw [if_pos c1] at hE
    go_wp2_with (go_at_call 267; refine (bld_byte w.heap.size w.heap.size _ _ _ hI (by rw [hcl]; omega) hsz).mono ?_)
    first
     | (intro e W1 he k1 k2 k3; subst he)
     | (rintro e W1 ⟨rfl, k1, k2, k3⟩)
    have ho1 := k3 _ _ ho (fun e => by have := Option.some.inj e; omega) (fun _ _ e => by cases e)
    go_wp2
    go_roundw
    case rel => exact ⟨k + 1, _, on, hlt, by go_num, by first | (rw [b8_cells]; exact Or.inr k1) | (rw [b8_cells' _ _ r0 (by omega)]; exact Or.inr k1), ho1, hbw.trans k2, hE, by simp; omega⟩
    case measure => simp [intOf]; omega
   rw [if_neg c1] at hE
   by_cases c2 : r < 127
   ·rw [if_pos c2] at hE
    have htl := tnR_len on false
    go_wp2_with (go_at_call 296; refine (turn_calls w.heap.size w.heap.size (w.heap.size + 1) false on acc _ hI ho (by omega) (by omega) (by omega) hsz).mono ?_)
    first
     | (intro e W1 he k1 k2 k3; subst he)
     | (rintro e W1 ⟨rfl, k1, k2, k3⟩)
    have hb1 := hbw.trans k3
    have hc1 : W1.cell? ⟨b, o + k, none⟩ = some (.int .i64 r) := by rw [k3.cell (by omega)]; exact hc
    have hcl1 := Lib.byteCells_length (acc ++ tnR on false)
    have hll : (acc ++ tnR on false).length ≤ acc.length + 1 := by rw [List.length_append]; omega
    go_wp2_with (go_at_call 267; refine (bld_byte w.heap.size w.heap.size _ _ _ k1 (by rw [hcl1]; omega) hb1.size).mono ?_)
    first
     | (intro e W2 he j1 j2 j3; subst he)
     | (rintro e W2 ⟨rfl, j1, j2, j3⟩)
    have ho2 := j3 _ _ k2 (fun e => by have := Option.some.inj e; omega) (fun _ _ e => by cases e)
    go_wp2
    go_roundw
    case rel => exact ⟨k + 1, _, false, hlt, by go_num, by first | (rw [b8_cells]; exact Or.inr j1) | (rw [b8_cells' _ _ r0 (by omega)]; exact Or.inr j1), ho2, hb1.trans j2, hE, by simp only [List.length_append, List.length_cons, List.length_nil] at hll ⊢; omega⟩
    case measure => simp [intOf]; omega
   ·rw [if_neg c2] at hE
    have htl := tnR_len on true
    go_wp2_with (go_at_call 296; refine (turn_calls w.heap.size w.heap.size (w.heap.size + 1) true on acc _ hI ho (by omega) (by omega) (by omega) hsz).mono ?_)
    first
     | (intro e W1 he k1 k2 k3; subst he)
     | (rintro e W1 ⟨rfl, k1, k2, k3⟩)
    have hb1 := hbw.trans k3
    have hc1 : W1.cell? ⟨b, o + k, none⟩ = some (.int .i64 r) := by rw [k3.cell (by omega)]; exact hc
    have hcl1 := Lib.byteCells_length (acc ++ tnR on true)
    have hll : (acc ++ tnR on true).length ≤ acc.length + 1 := by rw [List.length_append]; omega
    go_wp2_with (go_at_call 267; refine (bld_byte w.heap.size w.heap.size _ _ _ k1 (by rw [hcl1]; omega) hb1.size).mono ?_)
    first
     | (intro e W2 he j1 j2 j3; subst he)
     | (rintro e W2 ⟨rfl, j1, j2, j3⟩)
    have ho2 := j3 _ _ k2 (fun e => by have := Option.some.inj e; omega) (fun _ _ e => by cases e)
    go_wp2
    go_roundw
    case rel => exact ⟨k + 1, _, true, hlt, by go_num, by rw [b8_cells]; exact Or.inr j1, ho2, hb1.trans j2, hE, by simp only [List.length_append, List.length_cons, List.length_nil] at hll ⊢; omega⟩
    case measure => simp [intOf]; omega
  ·have hkx : k = xs.length := by omega
   subst hkx
   rw [List.drop_length] at hE
   unfold shR at hE
   have htl := tnR_len on false
   go_wp2_with (go_at_call 296; refine (turn_calls w.heap.size w.heap.size (w.heap.size + 1) false on acc _ hI ho (by omega) (by omega) (by omega) hsz).mono ?_)
   first
    | (intro e W1 he k1 k2 k3; subst he)
    | (rintro e W1 ⟨rfl, k1, k2, k3⟩)
   have hb1 := hbw.trans k3
   go_wp2_with (go_at_call 210; refine (Tryz.Builder_String_any_k w.heap.size w.heap.size _ _ k1 hb1.size).mono ?_)
   first
    | (intro e W2 he j1 j2 j3; subst he)
    | (rintro e W2 ⟨rfl, j1, j2, j3⟩)
   go_wp2
   go_ret
   rw [← hE]
   exact ⟨rfl, hb1.trans j2⟩
def numR (s : ByteArray) : Int × Bool := match Lib.atoiAll s.data.toList with
 | .ok v => (v, Lib.itoa v == s.toList)
 | Lib.NumEnd.syntax => (0, false)
 | .range => (Lib.atoiSat s.data.toList, false)
theorem numberOf_calls (s : ByteArray) (hlim : s.size ≤ 281474976710656) (e0 e1 : Value) (w : World) (h0 : w.cell? ⟨4, 0, none⟩ = some e0) (h0' : e0 = .nilIface ∨ ∃ te pe, e0 = .iface te pe) (h1 : w.cell? ⟨5, 0, none⟩ = some e1) (h1' : e1 = .nilIface ∨ ∃ te pe, e1 = .iface te pe)
  (ht : Lib.TabIs Tryz.prog w "internal/strconv.uint64pow10" .u64 Lib.pow10Tab) (hn : Tryz.prog.globalNamed "internal/strconv.uint64pow10" = some 3) :
  Calls Tryz.prog 195 #[.string s] w fun e w' => e = .returned (.tuple #[.int .i64 (numR s).1, .bool (numR s).2]) ∧ Below w.heap.size w w' := by
 cases h : Lib.atoiAll s.data.toList
 case ok v =>
  have hr : numR s = (v, Lib.itoa v == s.toList) := by simp only [numR, h]
  rw [hr]
  have hv : -9223372036854775808 ≤ v ∧ v ≤ 9223372036854775807 := Lib.atoiAll_bounds h
  go_enter Tryz.func195, Tryz.ntmps195
  go_wp2_with (go_at_call 231; refine (Tryz.strconv_Atoi_ok s (by omega) v h _).mono ?_; rintro e w1 ⟨rfl, hw⟩)
  have hb : Below w.heap.size w w1 := by
   rcases hw with rfl | ⟨t, rfl⟩
   ·exact Below.refl _ _
   ·exact Lib.bytesWorld_below _ _ _
  have ht1 := Go.Joins.tab_stays hn ht hb (Nat.le_refl _)
  go_wp2_with (go_at_call 152; refine (Tryz.strconv_Itoa v hv.1 hv.2 _ ht1).mono ?_; rintro e w2 ⟨rfl, k, os, rfl⟩)
  go_wp2
  go_ret2
  exact ⟨rfl, hb.trans ((below_dg w1 k os).mono hb.size)⟩
 case range =>
  have hr : numR s = (Lib.atoiSat s.data.toList, false) := by simp only [numR, h]
  rw [hr]
  go_enter Tryz.func195, Tryz.ntmps195
  go_wp2_with (go_at_call 231; refine (Tryz.strconv_Atoi_range s hlim h e1 _ ?_ h1').mono ?_)
  ·exact h1
  rintro e W1 ⟨N, rfl, -, -, hb⟩
  go_wp2
  go_ret2
  exact ⟨rfl, hb⟩
 next =>
  have hr : numR s = (0, false) := by simp only [numR, h]
  rw [hr]
  go_enter Tryz.func195, Tryz.ntmps195
  go_wp2_with (go_at_call 231; refine (Tryz.strconv_Atoi_syntax s hlim h e0 _ ?_ h0').mono ?_)
  ·exact h0
  rintro e W1 ⟨N, rfl, -, -, hb⟩
  go_wp2
  go_ret2
  exact ⟨rfl, hb⟩
theorem calls_of {P : Program} {f : FuncId} {args : Array Value} {v : Value} (h : ∀ (s : St), Hp s s no s [] → yg P f args s (fun x s' => x = v ∧ Hp s s no s' [])) (w : World) : Calls P f args w fun e w' => e = .returned v ∧ Below w.heap.size w w' := by
 let e0 : St := ⟨fun _ => none, fun _ => none, fun _ => none, fun _ => none⟩
 have hok : Ok w e0.dom w e0 := ⟨fun _ _ h => (by cases h), fun _ _ h => (by cases h), fun _ _ h => (by cases h), fun _ _ h => (by cases h), fun _ _ _ h => (by cases h), fun _ h => (by cases h), rfl, rfl, rfl, Nat.le_refl _, fun _ _ _ => rfl, fun _ h => (by cases h)⟩
 refine (h e0 (Hp.own (Bs.refl _)) w hok).mono ?_
 rintro e w' ⟨x, s', he, ⟨rfl, _⟩, ho⟩
 exact ⟨he, ho.os, ho.tape, ho.output, ho.size, fun k hk => ho.blk k hk rfl⟩
theorem utf8_calls (r : Int) (h0 : 0 ≤ r) (h1 : r ≤ 1114111) (w : World) :
  Calls Tryz.prog 266 #[.int .i64 r] w fun e w' => e = .returned (.string (Utf8.encode r)) ∧ w' = w := by
 go_enter Tryz.func266, Tryz.ntmps266
 go_wp2
 go_ret
 exact ⟨rfl, rfl⟩
theorem cell_lt {w : World} {b i : Nat} {v : Value} (h : w.cell? ⟨b, i, none⟩ = some v) : b < w.heap.size := by
 unfold World.cell? at h
 split at h
 ·rename_i hh
  exact (Array.getElem?_eq_some_iff.1 hh).1
 ·cases h
end Go.Proofs.YtbeolahmnoeicaaGreatDoor

