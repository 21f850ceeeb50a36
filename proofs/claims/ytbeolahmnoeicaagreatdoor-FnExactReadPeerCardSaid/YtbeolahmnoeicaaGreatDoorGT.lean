/- A logic of what is known of memory, over the kit's weakest preconditions: one part. No conditions: lemmas. -/
import Derived.Test.YtbeolahmnoeicaaGreatDoorGZ
set_option autoImplicit false
set_option relaxedAutoImplicit false
set_option linter.unusedVariables false
set_option linter.unusedSimpArgs false
namespace Go.Proofs.GL
open Go
theorem nh {A B : Prop} (h : A) (e : A = B := by (first | dsimp only | skip); (first | done | rfl)) : B := e.mp h
section
variable {P : Program} {w0 : World} {o0 : Nat → Bool} {ops : Array Oper} {Q : Exit → List Value → St → Prop} {l : List Value} {s : St} {rest : List Oper} {o : Oper}
variable {sb s0 : St} {F0 : Fp} {cs : List Ck}
theorem nH {cs' : List Ck} (h : Hp sb s0 F0 s cs) (e : cs = cs' := by (first | dsimp only [addC, setC, rmC, selC, getC] | skip); (first | done | rfl)) : Hp sb s0 F0 s cs' := e ▸ h
theorem Hp.se (h : Hp sb s0 F0 s cs) (is : List Nat) (hn : is.Nodup := by decide) : Hp sb s0 F0 s (selC cs is) := h.sel is hn
theorem Hp.tk (h : Hp sb s0 F0 s cs) (is : List Nat) {ds : List Ck} (hn : is.Nodup := by decide) (e : selC cs is = ds := by (first | dsimp only [selC, getC] | skip); (first | done | rfl)) :
  ∃ F1 : Fp, Hp sb s F1 s ds ∧ ∀ sb' s' ds, Up F1 sb sb' s → Hp sb' s F1 s' ds → Hp sb' s0 F0 s' (addC (rmC cs is) ds) := e ▸ h.take is hn
theorem skB {ks : List Nat} {vs : List Value} {m : Nat} {C : List Value → Prop} {B : Prop} (k : B) (e : Al ks vs m C = B := by (first | dsimp only [Al, Sk] | skip); (first | done | rfl)) : ∀ l, skim ks l = (vs, m + 1) → C l := skA (e.mpr k)
def valsL (l : List Value) : List ResultVar → List Value
 | [] => []
 | .tmp t :: rs => getL l t :: valsL l rs
 | _ :: rs => undef :: valsL l rs
def allTmp : List ResultVar → Bool
 | [] => true
 | .tmp _ :: rs => allTmp rs
 | _ => false
theorem ResVs_vals : ∀ {rs : List ResultVar}, allTmp rs = true → ResVs P l s rs (valsL l rs)
 | [], _ => trivial
 | .tmp _ :: _, h => ⟨rfl, ResVs_vals (by exact h)⟩
theorem rt {ρ : Type} {R : ρ → Value → St → Prop} {rs : List ResultVar} {p r : ρ} (hQr : ∀ l s vs p, ResVs P l s rs vs → some p = some r → R p (oneV vs) s → Q .ret l s) (H : some p = some r) (hp : R p (oneV (valsL l rs)) s) (ht : allTmp rs = true := by rfl) : HT P w0 o0 .ret Q l s := HT_ret (hQr l s _ p (ResVs_vals ht) H hp)
theorem gc {ρ : Type} {f : FuncId} {fn : Func} {c : Code} {args : Array Value} {R : ρ → Value → St → Prop} {t : Option ρ} {r : ρ} {L : List Value} (H : t = some r) (rs : List ResultVar) (n : Nat) (hf : P.funcs[f]? = some fn)
  (h : ∀ w (Q : Exit → List Value → St → Prop), (∀ l s vs p, ResVs P l s rs vs → some p = some r → R p (oneV vs) s → Q .ret l s) → (∀ l s vs p, ResVs P l s rs vs → some p = some r → R p (oneV vs) s → Q .normal l s) → (∀ c l s, ¬ Q (.panic c) l s) → t.bind some = some r → HT P w s.dom c Q L s)
  (hb : fn.body = some c := by rfl) (hr : fn.results = rs.toArray := by rfl) (hl : args.toList ++ List.replicate (fn.ntmps - args.size) undef = ud args.toList n := by rfl) (hL : ud args.toList n = L := by (first | dsimp only [ud, un, List.toList_toArray] | skip); (first | done | rfl)) : yg P f args s (R r) :=
 GCall_ofr R rs _ hf hb hr (hl.trans hL) fun w Q a b d => h w Q a b d (topE H)
theorem sq {id : Nat} {r : List Oper} {y : Code} (h : HL P w0 o0 r.toArray (thenG (fun l s => HT P w0 o0 y Q l s) Q) r l s) : HT P w0 o0 (.seq (.region id r.toArray false) y) Q l s := HT_seq (y6 h)
theorem nq {K : List Value → St → Prop} (h : K l s) : HL P w0 o0 ops (thenG K Q) [] l s := y0 h
theorem pP {R : St → Prop} {k : Nat} {L : Array Bool} {n : Nat} (i : Nat) {oi : Oper} {j : Nat} {b b' c : Bool} {t : Tmp} (hi : opOf ops.toList i = some oi) (hc : c = b')
  (h : HK P w0 o0 R k ops Q n (L.setIfInBounds i true) (yh l oi.dst undef) s) (hm : mayP ops k i L = true := by kernel_rfl) (hQ : ∀ c l s, ¬ Q (.panic c) l s := by assumption) (hg : oi.guard = some (j, b) := by rfl) (hd : dstOf ops.toList j = some t := by rfl) (hl : getL l t = .bool c := by rfl) (hlen : Nat.ble (t + 1) l.length = true := by rfl) (hn : b' = !b := by rfl) (hR : L.getD k false = false → R s := by intro _; assumption) : HK P w0 o0 R k ops Q (n + 1) L l s :=
 HK_passP i hi hm hQ (wantF hg hd hl hlen (hc.trans hn)) hR h
theorem pU {R : St → Prop} {k : Nat} {L : Array Bool} {n : Nat} (i : Nat) {oi : Oper} {j : Nat} {b : Bool} {t : Tmp} (hi : opOf ops.toList i = some oi)
  (h : HK P w0 o0 R k ops Q n (L.setIfInBounds i true) (yh l oi.dst undef) s) (hm : mayP ops k i L = true := by kernel_rfl) (hQ : ∀ c l s, ¬ Q (.panic c) l s := by assumption) (hg : oi.guard = some (j, b) := by rfl) (hd : dstOf ops.toList j = some t := by rfl) (hl : getL l t = undef := by rfl) (hlen : Nat.ble (t + 1) l.length = true := by rfl) (hR : L.getD k false = false → R s := by intro _; assumption) : HK P w0 o0 R k ops Q (n + 1) L l s :=
 HK_passP i hi hm hQ (wantU hg hd hl hlen) hR h
end
abbrev vi (n : Int) : Value := .int .i64 n
end Go.Proofs.GL

