/- The functions that the law reaches, as plain functions, each with its contract: printed by a program of the prover's. No conditions: lemmas. -/
import Derived.Test.YtopecknfnhocpaaWPutRune0
set_option linter.unusedVariables false
set_option linter.unusedSimpArgs false
namespace Go.Proofs.Ytopecknfnhocpaa
open Go Go.Proofs.GL
def impl_GoodScreen.f (p0_0 : Int) (p0_1 : Int) (p0_2 : List (Int)) (p0_3 : Int) (p0_4 : Int) : Option Bool := (impl_inRange.f p0_0 1 20).bind fun u4 => if u4 = true then ((impl_inRange.f p0_1 1 8).bind fun u6 => if u6 = true then (if ((p0_2.length : Int) == (IntKind.i64.wrap (p0_0 * p0_1))) = true then ((impl_inRange.f p0_3 0 p0_0).bind fun u9 => if u9 = true then ((impl_isPlace.f p0_4 p0_1).bind fun u11 => if u11 = true then ((slices_ContainsFunc_int_int_impl_GoodScreen_1.f p0_2).bind fun u13 => some (!u13)) else (some false)) else (some false)) else (some false)) else (some false)) else (some false)
def impl_GoodScreen.post (sb s : St) (F0 : Fp) (r : Bool) : Value → St → Prop := fun v s' => v = .bool r ∧ Hp sb s F0 s' []
set_option maxRecDepth 100000 in
set_option maxHeartbeats 4000000 in
theorem impl_GoodScreen.ok (sb s : St) (F0 : Fp) (p0_0 : Int) (p0_1 : Int) (A0_2p : Option Addr) (c0_2p : Nat) (p0_2 : List (Int)) (p0_3 : Int) (p0_4 : Int) (HRp0_2 : Rd KI sb A0_2p c0_2p p0_2) (hH : Hp sb s F0 s []) (r : Bool) (H : impl_GoodScreen.f p0_0 p0_1 p0_2 p0_3 p0_4 = some r) : GCall Try.prog 104 #[.agg #[.int .i64 p0_0, .int .i64 p0_1, .slice A0_2p p0_2.length c0_2p, .int .i64 p0_3, .int .i64 p0_4]] s (impl_GoodScreen.post sb s F0 r) := by
  refine GCall_ofk [.tmp 2] [.agg #[.int .i64 p0_0, .int .i64 p0_1, .slice A0_2p p0_2.length c0_2p, .int .i64 p0_3, .int .i64 p0_4], undef, undef, undef, undef, undef, undef, undef, undef, undef, undef, undef, undef, undef, undef, undef, undef, undef, undef, undef, undef, undef, undef, undef, undef, undef, undef, undef, undef, undef, undef, undef, undef, undef, undef, undef, undef, undef, undef, undef, undef, undef] Try.func104 rfl rfl rfl ?_
  intro w Q hQr hQn hQp
  replace H := topE H
  unfold impl_GoodScreen.f at H
  refine HT_seq_k ?_
  intro K1 hK1
  refine HT_region ?_
  refine HL_cons rfl ?_
  refine o_boxH hH rfl ?_
  intro b2 s2 hH' hG
  replace hH : Hp sb s F0 s2 [Ck.ov b2 [.int .i64 p0_0, .int .i64 p0_1, .slice A0_2p p0_2.length c0_2p, .int .i64 p0_3, .int .i64 p0_4] 55] := hH'
  clear hH' hG
  try dsimp only [putL, setL, evL, getL]
  refine HL_cons rfl ?_
  refine o_assign ?_
  try dsimp only [putL, setL, evL, getL]
  refine HL_nil ?_
  refine hK1 _ _ ?_
  refine HT_seq_k ?_
  intro K3 hK3
  refine HT_region ?_
  refine HL_cons rfl ?_
  refine o_faddr' (ft := 3) (off := 0) rfl Try.underlying55 rfl tI3 (by decide) ?_
  try dsimp only [putL, setL, evL, getL]
  refine HL_cons rfl ?_
  refine o_load' rfl Try.underlying3 rfl (hH.hasv 0 rfl rfl) ?_
  try dsimp only [putL, setL, evL, getL]
  obtain ⟨u4, hu4, H⟩ := headE H
  refine HL_cons rfl ?_
  refine o_call (args := #[.int .i64 p0_0, .int .i64 1, .int .i64 20]) Try.func86 rfl rfl rfl (impl_inRange.ok sb s2 no p0_0 1 20 (Hp.own hH.bs) _ hu4) ?_
  rintro _ s4 ⟨rfl, hD⟩
  replace hH := hH.back0 hD (Up.refl _ _ _)
  clear hD
  dsimp only [addC, setC, rmC, selC, getC] at hH
  try dsimp only [putL, setL, evL, getL]
  refine HL_cons rfl ?_
  refine o_move ?_
  try dsimp only [putL, setL, evL, getL]
  rcases Bool.eq_false_or_eq_true u4 with hb5 | hb5
  · replace H := iteT hb5 H
    refine HL_want ?_ ?_
    · exact wantT (j := 3) (b := true) (t := 6) (c := u4) rfl rfl rfl rfl hb5
    refine o_faddr' (ft := 3) (off := 1) rfl Try.underlying55 rfl tI3 (by decide) ?_
    try dsimp only [putL, setL, evL, getL]
    refine HL_want ?_ ?_
    · exact wantT (j := 3) (b := true) (t := 6) (c := u4) rfl rfl rfl rfl hb5
    refine o_load' rfl Try.underlying3 rfl (hH.hasv 0 rfl rfl) ?_
    try dsimp only [putL, setL, evL, getL]
    obtain ⟨u6, hu6, H⟩ := headE H
    refine HL_want ?_ ?_
    · exact wantT (j := 3) (b := true) (t := 6) (c := u4) rfl rfl rfl rfl hb5
    refine o_call (args := #[.int .i64 p0_1, .int .i64 1, .int .i64 8]) Try.func86 rfl rfl rfl (impl_inRange.ok sb s4 no p0_1 1 8 (Hp.own hH.bs) _ hu6) ?_
    rintro _ s6 ⟨rfl, hD⟩
    replace hH := hH.back0 hD (Up.refl _ _ _)
    clear hD
    dsimp only [addC, setC, rmC, selC, getC] at hH
    try dsimp only [putL, setL, evL, getL]
    refine HL_cons rfl ?_
    refine o_pickT rfl hb5 ?_
    try dsimp only [putL, setL, evL, getL]
    refine HL_cons rfl ?_
    refine o_move ?_
    try dsimp only [putL, setL, evL, getL]
    rcases Bool.eq_false_or_eq_true u6 with hb7 | hb7
    · replace H := iteT hb7 H
      refine HL_want ?_ ?_
      · exact wantT (j := 8) (b := true) (t := 11) (c := u6) rfl rfl rfl rfl hb7
      refine o_faddr' (ft := 22) (off := 2) rfl Try.underlying55 rfl tI22 (by decide) ?_
      try dsimp only [putL, setL, evL, getL]
      refine HL_want ?_ ?_
      · exact wantT (j := 8) (b := true) (t := 11) (c := u6) rfl rfl rfl rfl hb7
      refine o_load' rfl Try.underlying22 rfl (hH.hasv 0 rfl rfl) ?_
      try dsimp only [putL, setL, evL, getL]
      refine HL_want ?_ ?_
      · exact wantT (j := 8) (b := true) (t := 11) (c := u6) rfl rfl rfl rfl hb7
      refine o_len rfl Try.underlying22 ?_
      try dsimp only [putL, setL, evL, getL]
      refine HL_want ?_ ?_
      · exact wantT (j := 8) (b := true) (t := 11) (c := u6) rfl rfl rfl rfl hb7
      refine o_faddr' (ft := 3) (off := 0) rfl Try.underlying55 rfl tI3 (by decide) ?_
      try dsimp only [putL, setL, evL, getL]
      refine HL_want ?_ ?_
      · exact wantT (j := 8) (b := true) (t := 11) (c := u6) rfl rfl rfl rfl hb7
      refine o_load' rfl Try.underlying3 rfl (hH.hasv 0 rfl rfl) ?_
      try dsimp only [putL, setL, evL, getL]
      refine HL_want ?_ ?_
      · exact wantT (j := 8) (b := true) (t := 11) (c := u6) rfl rfl rfl rfl hb7
      refine o_faddr' (ft := 3) (off := 1) rfl Try.underlying55 rfl tI3 (by decide) ?_
      try dsimp only [putL, setL, evL, getL]
      refine HL_want ?_ ?_
      · exact wantT (j := 8) (b := true) (t := 11) (c := u6) rfl rfl rfl rfl hb7
      refine o_load' rfl Try.underlying3 rfl (hH.hasv 0 rfl rfl) ?_
      try dsimp only [putL, setL, evL, getL]
      refine HL_want ?_ ?_
      · exact wantT (j := 8) (b := true) (t := 11) (c := u6) rfl rfl rfl rfl hb7
      refine o_bin rfl rfl rfl ?_
      try dsimp only [putL, setL, evL, getL]
      refine HL_want ?_ ?_
      · exact wantT (j := 8) (b := true) (t := 11) (c := u6) rfl rfl rfl rfl hb7
      refine o_bin rfl rfl rfl ?_
      try dsimp only [putL, setL, evL, getL]
      refine HL_cons rfl ?_
      refine o_pickT rfl hb7 ?_
      try dsimp only [putL, setL, evL, getL]
      refine HL_cons rfl ?_
      refine o_move ?_
      try dsimp only [putL, setL, evL, getL]
      rcases Bool.eq_false_or_eq_true ((p0_2.length : Int) == (IntKind.i64.wrap (p0_0 * p0_1))) with hb8 | hb8
      · replace H := iteT hb8 H
        refine HL_want ?_ ?_
        · exact wantT (j := 19) (b := true) (t := 22) (c := (p0_2.length : Int) == (IntKind.i64.wrap (p0_0 * p0_1))) rfl rfl rfl rfl hb8
        refine o_faddr' (ft := 3) (off := 3) rfl Try.underlying55 rfl tI3 (by decide) ?_
        try dsimp only [putL, setL, evL, getL]
        refine HL_want ?_ ?_
        · exact wantT (j := 19) (b := true) (t := 22) (c := (p0_2.length : Int) == (IntKind.i64.wrap (p0_0 * p0_1))) rfl rfl rfl rfl hb8
        refine o_load' rfl Try.underlying3 rfl (hH.hasv 0 rfl rfl) ?_
        try dsimp only [putL, setL, evL, getL]
        refine HL_want ?_ ?_
        · exact wantT (j := 19) (b := true) (t := 22) (c := (p0_2.length : Int) == (IntKind.i64.wrap (p0_0 * p0_1))) rfl rfl rfl rfl hb8
        refine o_faddr' (ft := 3) (off := 0) rfl Try.underlying55 rfl tI3 (by decide) ?_
        try dsimp only [putL, setL, evL, getL]
        refine HL_want ?_ ?_
        · exact wantT (j := 19) (b := true) (t := 22) (c := (p0_2.length : Int) == (IntKind.i64.wrap (p0_0 * p0_1))) rfl rfl rfl rfl hb8
        refine o_load' rfl Try.underlying3 rfl (hH.hasv 0 rfl rfl) ?_
        try dsimp only [putL, setL, evL, getL]
        obtain ⟨u9, hu9, H⟩ := headE H
        refine HL_want ?_ ?_
        · exact wantT (j := 19) (b := true) (t := 22) (c := (p0_2.length : Int) == (IntKind.i64.wrap (p0_0 * p0_1))) rfl rfl rfl rfl hb8
        refine o_call (args := #[.int .i64 p0_3, .int .i64 0, .int .i64 p0_0]) Try.func86 rfl rfl rfl (impl_inRange.ok sb s6 no p0_3 0 p0_0 (Hp.own hH.bs) _ hu9) ?_
        rintro _ s9 ⟨rfl, hD⟩
        replace hH := hH.back0 hD (Up.refl _ _ _)
        clear hD
        dsimp only [addC, setC, rmC, selC, getC] at hH
        try dsimp only [putL, setL, evL, getL]
        refine HL_cons rfl ?_
        refine o_pickT rfl hb8 ?_
        try dsimp only [putL, setL, evL, getL]
        refine HL_cons rfl ?_
        refine o_move ?_
        try dsimp only [putL, setL, evL, getL]
        rcases Bool.eq_false_or_eq_true u9 with hb10 | hb10
        · replace H := iteT hb10 H
          refine HL_want ?_ ?_
          · exact wantT (j := 26) (b := true) (t := 29) (c := u9) rfl rfl rfl rfl hb10
          refine o_faddr' (ft := 3) (off := 4) rfl Try.underlying55 rfl tI3 (by decide) ?_
          try dsimp only [putL, setL, evL, getL]
          refine HL_want ?_ ?_
          · exact wantT (j := 26) (b := true) (t := 29) (c := u9) rfl rfl rfl rfl hb10
          refine o_load' rfl Try.underlying3 rfl (hH.hasv 0 rfl rfl) ?_
          try dsimp only [putL, setL, evL, getL]
          refine HL_want ?_ ?_
          · exact wantT (j := 26) (b := true) (t := 29) (c := u9) rfl rfl rfl rfl hb10
          refine o_faddr' (ft := 3) (off := 1) rfl Try.underlying55 rfl tI3 (by decide) ?_
          try dsimp only [putL, setL, evL, getL]
          refine HL_want ?_ ?_
          · exact wantT (j := 26) (b := true) (t := 29) (c := u9) rfl rfl rfl rfl hb10
          refine o_load' rfl Try.underlying3 rfl (hH.hasv 0 rfl rfl) ?_
          try dsimp only [putL, setL, evL, getL]
          obtain ⟨u11, hu11, H⟩ := headE H
          refine HL_want ?_ ?_
          · exact wantT (j := 26) (b := true) (t := 29) (c := u9) rfl rfl rfl rfl hb10
          refine o_call (args := #[.int .i64 p0_4, .int .i64 p0_1]) Try.func126 rfl rfl rfl (impl_isPlace.ok sb s9 no p0_4 p0_1 (Hp.own hH.bs) _ hu11) ?_
          rintro _ s11 ⟨rfl, hD⟩
          replace hH := hH.back0 hD (Up.refl _ _ _)
          clear hD
          dsimp only [addC, setC, rmC, selC, getC] at hH
          try dsimp only [putL, setL, evL, getL]
          refine HL_cons rfl ?_
          refine o_pickT rfl hb10 ?_
          try dsimp only [putL, setL, evL, getL]
          refine HL_cons rfl ?_
          refine o_move ?_
          try dsimp only [putL, setL, evL, getL]
          rcases Bool.eq_false_or_eq_true u11 with hb12 | hb12
          · replace H := iteT hb12 H
            refine HL_want ?_ ?_
            · exact wantT (j := 33) (b := true) (t := 36) (c := u11) rfl rfl rfl rfl hb12
            refine o_faddr' (ft := 22) (off := 2) rfl Try.underlying55 rfl tI22 (by decide) ?_
            try dsimp only [putL, setL, evL, getL]
            refine HL_want ?_ ?_
            · exact wantT (j := 33) (b := true) (t := 36) (c := u11) rfl rfl rfl rfl hb12
            refine o_load' rfl Try.underlying22 rfl (hH.hasv 0 rfl rfl) ?_
            try dsimp only [putL, setL, evL, getL]
            obtain ⟨u13, hu13, H⟩ := headE H
            refine HL_want ?_ ?_
            · exact wantT (j := 33) (b := true) (t := 36) (c := u11) rfl rfl rfl rfl hb12
            refine o_call (args := #[.slice A0_2p p0_2.length c0_2p, .func (.func 146) #[] #[]]) Try.func110 rfl rfl rfl (slices_ContainsFunc_int_int_impl_GoodScreen_1.ok sb s11 no A0_2p c0_2p p0_2 HRp0_2 (Hp.own hH.bs) _ hu13) ?_
            rintro _ s13 ⟨rfl, hD⟩
            replace hH := hH.back0 hD (Up.refl _ _ _)
            clear hD
            dsimp only [addC, setC, rmC, selC, getC] at hH
            try dsimp only [putL, setL, evL, getL]
            refine HL_want ?_ ?_
            · exact wantT (j := 33) (b := true) (t := 36) (c := u11) rfl rfl rfl rfl hb12
            refine o_not rfl ?_
            try dsimp only [putL, setL, evL, getL]
            refine HL_cons rfl ?_
            refine o_pickT rfl hb12 ?_
            try dsimp only [putL, setL, evL, getL]
            refine HL_cons rfl ?_
            refine o_assign ?_
            try dsimp only [putL, setL, evL, getL]
            refine HL_nil ?_
            refine hK3 _ _ ?_
            refine HT_ret ?_
            obtain rfl := Option.some.inj (show some _ = some r from H)
            exact hQr _ _ [.bool (!u13)] ⟨rfl, trivial⟩ ⟨rfl, hH.sel [] (by decide)⟩
          · replace H := iteF hb12 H
            refine HL_skip ?_ ?_
            · exact wantF (j := 33) (b := true) (t := 36) (c := u11) rfl rfl rfl rfl hb12
            try dsimp only [putL, setL, evL, getL]
            refine HL_skip ?_ ?_
            · exact wantF (j := 33) (b := true) (t := 36) (c := u11) rfl rfl rfl rfl hb12
            try dsimp only [putL, setL, evL, getL]
            refine HL_skip ?_ ?_
            · exact wantF (j := 33) (b := true) (t := 36) (c := u11) rfl rfl rfl rfl hb12
            try dsimp only [putL, setL, evL, getL]
            refine HL_skip ?_ ?_
            · exact wantF (j := 33) (b := true) (t := 36) (c := u11) rfl rfl rfl rfl hb12
            try dsimp only [putL, setL, evL, getL]
            refine HL_cons rfl ?_
            refine o_pickF rfl hb12 ?_
            try dsimp only [putL, setL, evL, getL]
            refine HL_cons rfl ?_
            refine o_assign ?_
            try dsimp only [putL, setL, evL, getL]
            refine HL_nil ?_
            refine hK3 _ _ ?_
            refine HT_ret ?_
            obtain rfl := Option.some.inj (show some _ = some r from H)
            exact hQr _ _ [.bool false] ⟨rfl, trivial⟩ ⟨rfl, hH.sel [] (by decide)⟩
        · replace H := iteF hb10 H
          refine HL_skip ?_ ?_
          · exact wantF (j := 26) (b := true) (t := 29) (c := u9) rfl rfl rfl rfl hb10
          try dsimp only [putL, setL, evL, getL]
          refine HL_skip ?_ ?_
          · exact wantF (j := 26) (b := true) (t := 29) (c := u9) rfl rfl rfl rfl hb10
          try dsimp only [putL, setL, evL, getL]
          refine HL_skip ?_ ?_
          · exact wantF (j := 26) (b := true) (t := 29) (c := u9) rfl rfl rfl rfl hb10
          try dsimp only [putL, setL, evL, getL]
          refine HL_skip ?_ ?_
          · exact wantF (j := 26) (b := true) (t := 29) (c := u9) rfl rfl rfl rfl hb10
          try dsimp only [putL, setL, evL, getL]
          refine HL_skip ?_ ?_
          · exact wantF (j := 26) (b := true) (t := 29) (c := u9) rfl rfl rfl rfl hb10
          try dsimp only [putL, setL, evL, getL]
          refine HL_cons rfl ?_
          refine o_pickF rfl hb10 ?_
          try dsimp only [putL, setL, evL, getL]
          refine HL_cons rfl ?_
          refine o_move ?_
          try dsimp only [putL, setL, evL, getL]
          refine HL_skip ?_ ?_
          · exact wantF (j := 33) (b := true) (t := 36) (c := false) rfl rfl rfl rfl rfl
          try dsimp only [putL, setL, evL, getL]
          refine HL_skip ?_ ?_
          · exact wantF (j := 33) (b := true) (t := 36) (c := false) rfl rfl rfl rfl rfl
          try dsimp only [putL, setL, evL, getL]
          refine HL_skip ?_ ?_
          · exact wantF (j := 33) (b := true) (t := 36) (c := false) rfl rfl rfl rfl rfl
          try dsimp only [putL, setL, evL, getL]
          refine HL_skip ?_ ?_
          · exact wantF (j := 33) (b := true) (t := 36) (c := false) rfl rfl rfl rfl rfl
          try dsimp only [putL, setL, evL, getL]
          refine HL_cons rfl ?_
          refine o_pickF rfl rfl ?_
          try dsimp only [putL, setL, evL, getL]
          refine HL_cons rfl ?_
          refine o_assign ?_
          try dsimp only [putL, setL, evL, getL]
          refine HL_nil ?_
          refine hK3 _ _ ?_
          refine HT_ret ?_
          obtain rfl := Option.some.inj (show some _ = some r from H)
          exact hQr _ _ [.bool false] ⟨rfl, trivial⟩ ⟨rfl, hH.sel [] (by decide)⟩
      · replace H := iteF hb8 H
        refine HL_skip ?_ ?_
        · exact wantF (j := 19) (b := true) (t := 22) (c := (p0_2.length : Int) == (IntKind.i64.wrap (p0_0 * p0_1))) rfl rfl rfl rfl hb8
        try dsimp only [putL, setL, evL, getL]
        refine HL_skip ?_ ?_
        · exact wantF (j := 19) (b := true) (t := 22) (c := (p0_2.length : Int) == (IntKind.i64.wrap (p0_0 * p0_1))) rfl rfl rfl rfl hb8
        try dsimp only [putL, setL, evL, getL]
        refine HL_skip ?_ ?_
        · exact wantF (j := 19) (b := true) (t := 22) (c := (p0_2.length : Int) == (IntKind.i64.wrap (p0_0 * p0_1))) rfl rfl rfl rfl hb8
        try dsimp only [putL, setL, evL, getL]
        refine HL_skip ?_ ?_
        · exact wantF (j := 19) (b := true) (t := 22) (c := (p0_2.length : Int) == (IntKind.i64.wrap (p0_0 * p0_1))) rfl rfl rfl rfl hb8
        try dsimp only [putL, setL, evL, getL]
        refine HL_skip ?_ ?_
        · exact wantF (j := 19) (b := true) (t := 22) (c := (p0_2.length : Int) == (IntKind.i64.wrap (p0_0 * p0_1))) rfl rfl rfl rfl hb8
        try dsimp only [putL, setL, evL, getL]
        refine HL_cons rfl ?_
        refine o_pickF rfl hb8 ?_
        try dsimp only [putL, setL, evL, getL]
        refine HL_cons rfl ?_
        refine o_move ?_
        try dsimp only [putL, setL, evL, getL]
        refine HL_skip ?_ ?_
        · exact wantF (j := 26) (b := true) (t := 29) (c := false) rfl rfl rfl rfl rfl
        try dsimp only [putL, setL, evL, getL]
        refine HL_skip ?_ ?_
        · exact wantF (j := 26) (b := true) (t := 29) (c := false) rfl rfl rfl rfl rfl
        try dsimp only [putL, setL, evL, getL]
        refine HL_skip ?_ ?_
        · exact wantF (j := 26) (b := true) (t := 29) (c := false) rfl rfl rfl rfl rfl
        try dsimp only [putL, setL, evL, getL]
        refine HL_skip ?_ ?_
        · exact wantF (j := 26) (b := true) (t := 29) (c := false) rfl rfl rfl rfl rfl
        try dsimp only [putL, setL, evL, getL]
        refine HL_skip ?_ ?_
        · exact wantF (j := 26) (b := true) (t := 29) (c := false) rfl rfl rfl rfl rfl
        try dsimp only [putL, setL, evL, getL]
        refine HL_cons rfl ?_
        refine o_pickF rfl rfl ?_
        try dsimp only [putL, setL, evL, getL]
        refine HL_cons rfl ?_
        refine o_move ?_
        try dsimp only [putL, setL, evL, getL]
        refine HL_skip ?_ ?_
        · exact wantF (j := 33) (b := true) (t := 36) (c := false) rfl rfl rfl rfl rfl
        try dsimp only [putL, setL, evL, getL]
        refine HL_skip ?_ ?_
        · exact wantF (j := 33) (b := true) (t := 36) (c := false) rfl rfl rfl rfl rfl
        try dsimp only [putL, setL, evL, getL]
        refine HL_skip ?_ ?_
        · exact wantF (j := 33) (b := true) (t := 36) (c := false) rfl rfl rfl rfl rfl
        try dsimp only [putL, setL, evL, getL]
        refine HL_skip ?_ ?_
        · exact wantF (j := 33) (b := true) (t := 36) (c := false) rfl rfl rfl rfl rfl
        try dsimp only [putL, setL, evL, getL]
        refine HL_cons rfl ?_
        refine o_pickF rfl rfl ?_
        try dsimp only [putL, setL, evL, getL]
        refine HL_cons rfl ?_
        refine o_assign ?_
        try dsimp only [putL, setL, evL, getL]
        refine HL_nil ?_
        refine hK3 _ _ ?_
        refine HT_ret ?_
        obtain rfl := Option.some.inj (show some _ = some r from H)
        exact hQr _ _ [.bool false] ⟨rfl, trivial⟩ ⟨rfl, hH.sel [] (by decide)⟩
    · replace H := iteF hb7 H
      refine HL_skip ?_ ?_
      · exact wantF (j := 8) (b := true) (t := 11) (c := u6) rfl rfl rfl rfl hb7
      try dsimp only [putL, setL, evL, getL]
      refine HL_skip ?_ ?_
      · exact wantF (j := 8) (b := true) (t := 11) (c := u6) rfl rfl rfl rfl hb7
      try dsimp only [putL, setL, evL, getL]
      refine HL_skip ?_ ?_
      · exact wantF (j := 8) (b := true) (t := 11) (c := u6) rfl rfl rfl rfl hb7
      try dsimp only [putL, setL, evL, getL]
      refine HL_skip ?_ ?_
      · exact wantF (j := 8) (b := true) (t := 11) (c := u6) rfl rfl rfl rfl hb7
      try dsimp only [putL, setL, evL, getL]
      refine HL_skip ?_ ?_
      · exact wantF (j := 8) (b := true) (t := 11) (c := u6) rfl rfl rfl rfl hb7
      try dsimp only [putL, setL, evL, getL]
      refine HL_skip ?_ ?_
      · exact wantF (j := 8) (b := true) (t := 11) (c := u6) rfl rfl rfl rfl hb7
      try dsimp only [putL, setL, evL, getL]
      refine HL_skip ?_ ?_
      · exact wantF (j := 8) (b := true) (t := 11) (c := u6) rfl rfl rfl rfl hb7
      try dsimp only [putL, setL, evL, getL]
      refine HL_skip ?_ ?_
      · exact wantF (j := 8) (b := true) (t := 11) (c := u6) rfl rfl rfl rfl hb7
      try dsimp only [putL, setL, evL, getL]
      refine HL_skip ?_ ?_
      · exact wantF (j := 8) (b := true) (t := 11) (c := u6) rfl rfl rfl rfl hb7
      try dsimp only [putL, setL, evL, getL]
      refine HL_cons rfl ?_
      refine o_pickF rfl hb7 ?_
      try dsimp only [putL, setL, evL, getL]
      refine HL_cons rfl ?_
      refine o_move ?_
      try dsimp only [putL, setL, evL, getL]
      refine HL_skip ?_ ?_
      · exact wantF (j := 19) (b := true) (t := 22) (c := false) rfl rfl rfl rfl rfl
      try dsimp only [putL, setL, evL, getL]
      refine HL_skip ?_ ?_
      · exact wantF (j := 19) (b := true) (t := 22) (c := false) rfl rfl rfl rfl rfl
      try dsimp only [putL, setL, evL, getL]
      refine HL_skip ?_ ?_
      · exact wantF (j := 19) (b := true) (t := 22) (c := false) rfl rfl rfl rfl rfl
      try dsimp only [putL, setL, evL, getL]
      refine HL_skip ?_ ?_
      · exact wantF (j := 19) (b := true) (t := 22) (c := false) rfl rfl rfl rfl rfl
      try dsimp only [putL, setL, evL, getL]
      refine HL_skip ?_ ?_
      · exact wantF (j := 19) (b := true) (t := 22) (c := false) rfl rfl rfl rfl rfl
      try dsimp only [putL, setL, evL, getL]
      refine HL_cons rfl ?_
      refine o_pickF rfl rfl ?_
      try dsimp only [putL, setL, evL, getL]
      refine HL_cons rfl ?_
      refine o_move ?_
      try dsimp only [putL, setL, evL, getL]
      refine HL_skip ?_ ?_
      · exact wantF (j := 26) (b := true) (t := 29) (c := false) rfl rfl rfl rfl rfl
      try dsimp only [putL, setL, evL, getL]
      refine HL_skip ?_ ?_
      · exact wantF (j := 26) (b := true) (t := 29) (c := false) rfl rfl rfl rfl rfl
      try dsimp only [putL, setL, evL, getL]
      refine HL_skip ?_ ?_
      · exact wantF (j := 26) (b := true) (t := 29) (c := false) rfl rfl rfl rfl rfl
      try dsimp only [putL, setL, evL, getL]
      refine HL_skip ?_ ?_
      · exact wantF (j := 26) (b := true) (t := 29) (c := false) rfl rfl rfl rfl rfl
      try dsimp only [putL, setL, evL, getL]
      refine HL_skip ?_ ?_
      · exact wantF (j := 26) (b := true) (t := 29) (c := false) rfl rfl rfl rfl rfl
      try dsimp only [putL, setL, evL, getL]
      refine HL_cons rfl ?_
      refine o_pickF rfl rfl ?_
      try dsimp only [putL, setL, evL, getL]
      refine HL_cons rfl ?_
      refine o_move ?_
      try dsimp only [putL, setL, evL, getL]
      refine HL_skip ?_ ?_
      · exact wantF (j := 33) (b := true) (t := 36) (c := false) rfl rfl rfl rfl rfl
      try dsimp only [putL, setL, evL, getL]
      refine HL_skip ?_ ?_
      · exact wantF (j := 33) (b := true) (t := 36) (c := false) rfl rfl rfl rfl rfl
      try dsimp only [putL, setL, evL, getL]
      refine HL_skip ?_ ?_
      · exact wantF (j := 33) (b := true) (t := 36) (c := false) rfl rfl rfl rfl rfl
      try dsimp only [putL, setL, evL, getL]
      refine HL_skip ?_ ?_
      · exact wantF (j := 33) (b := true) (t := 36) (c := false) rfl rfl rfl rfl rfl
      try dsimp only [putL, setL, evL, getL]
      refine HL_cons rfl ?_
      refine o_pickF rfl rfl ?_
      try dsimp only [putL, setL, evL, getL]
      refine HL_cons rfl ?_
      refine o_assign ?_
      try dsimp only [putL, setL, evL, getL]
      refine HL_nil ?_
      refine hK3 _ _ ?_
      refine HT_ret ?_
      obtain rfl := Option.some.inj (show some _ = some r from H)
      exact hQr _ _ [.bool false] ⟨rfl, trivial⟩ ⟨rfl, hH.sel [] (by decide)⟩
  · replace H := iteF hb5 H
    refine HL_skip ?_ ?_
    · exact wantF (j := 3) (b := true) (t := 6) (c := u4) rfl rfl rfl rfl hb5
    try dsimp only [putL, setL, evL, getL]
    refine HL_skip ?_ ?_
    · exact wantF (j := 3) (b := true) (t := 6) (c := u4) rfl rfl rfl rfl hb5
    try dsimp only [putL, setL, evL, getL]
    refine HL_skip ?_ ?_
    · exact wantF (j := 3) (b := true) (t := 6) (c := u4) rfl rfl rfl rfl hb5
    try dsimp only [putL, setL, evL, getL]
    refine HL_cons rfl ?_
    refine o_pickF rfl hb5 ?_
    try dsimp only [putL, setL, evL, getL]
    refine HL_cons rfl ?_
    refine o_move ?_
    try dsimp only [putL, setL, evL, getL]
    refine HL_skip ?_ ?_
    · exact wantF (j := 8) (b := true) (t := 11) (c := false) rfl rfl rfl rfl rfl
    try dsimp only [putL, setL, evL, getL]
    refine HL_skip ?_ ?_
    · exact wantF (j := 8) (b := true) (t := 11) (c := false) rfl rfl rfl rfl rfl
    try dsimp only [putL, setL, evL, getL]
    refine HL_skip ?_ ?_
    · exact wantF (j := 8) (b := true) (t := 11) (c := false) rfl rfl rfl rfl rfl
    try dsimp only [putL, setL, evL, getL]
    refine HL_skip ?_ ?_
    · exact wantF (j := 8) (b := true) (t := 11) (c := false) rfl rfl rfl rfl rfl
    try dsimp only [putL, setL, evL, getL]
    refine HL_skip ?_ ?_
    · exact wantF (j := 8) (b := true) (t := 11) (c := false) rfl rfl rfl rfl rfl
    try dsimp only [putL, setL, evL, getL]
    refine HL_skip ?_ ?_
    · exact wantF (j := 8) (b := true) (t := 11) (c := false) rfl rfl rfl rfl rfl
    try dsimp only [putL, setL, evL, getL]
    refine HL_skip ?_ ?_
    · exact wantF (j := 8) (b := true) (t := 11) (c := false) rfl rfl rfl rfl rfl
    try dsimp only [putL, setL, evL, getL]
    refine HL_skip ?_ ?_
    · exact wantF (j := 8) (b := true) (t := 11) (c := false) rfl rfl rfl rfl rfl
    try dsimp only [putL, setL, evL, getL]
    refine HL_skip ?_ ?_
    · exact wantF (j := 8) (b := true) (t := 11) (c := false) rfl rfl rfl rfl rfl
    try dsimp only [putL, setL, evL, getL]
    refine HL_cons rfl ?_
    refine o_pickF rfl rfl ?_
    try dsimp only [putL, setL, evL, getL]
    refine HL_cons rfl ?_
    refine o_move ?_
    try dsimp only [putL, setL, evL, getL]
    refine HL_skip ?_ ?_
    · exact wantF (j := 19) (b := true) (t := 22) (c := false) rfl rfl rfl rfl rfl
    try dsimp only [putL, setL, evL, getL]
    refine HL_skip ?_ ?_
    · exact wantF (j := 19) (b := true) (t := 22) (c := false) rfl rfl rfl rfl rfl
    try dsimp only [putL, setL, evL, getL]
    refine HL_skip ?_ ?_
    · exact wantF (j := 19) (b := true) (t := 22) (c := false) rfl rfl rfl rfl rfl
    try dsimp only [putL, setL, evL, getL]
    refine HL_skip ?_ ?_
    · exact wantF (j := 19) (b := true) (t := 22) (c := false) rfl rfl rfl rfl rfl
    try dsimp only [putL, setL, evL, getL]
    refine HL_skip ?_ ?_
    · exact wantF (j := 19) (b := true) (t := 22) (c := false) rfl rfl rfl rfl rfl
    try dsimp only [putL, setL, evL, getL]
    refine HL_cons rfl ?_
    refine o_pickF rfl rfl ?_
    try dsimp only [putL, setL, evL, getL]
    refine HL_cons rfl ?_
    refine o_move ?_
    try dsimp only [putL, setL, evL, getL]
    refine HL_skip ?_ ?_
    · exact wantF (j := 26) (b := true) (t := 29) (c := false) rfl rfl rfl rfl rfl
    try dsimp only [putL, setL, evL, getL]
    refine HL_skip ?_ ?_
    · exact wantF (j := 26) (b := true) (t := 29) (c := false) rfl rfl rfl rfl rfl
    try dsimp only [putL, setL, evL, getL]
    refine HL_skip ?_ ?_
    · exact wantF (j := 26) (b := true) (t := 29) (c := false) rfl rfl rfl rfl rfl
    try dsimp only [putL, setL, evL, getL]
    refine HL_skip ?_ ?_
    · exact wantF (j := 26) (b := true) (t := 29) (c := false) rfl rfl rfl rfl rfl
    try dsimp only [putL, setL, evL, getL]
    refine HL_skip ?_ ?_
    · exact wantF (j := 26) (b := true) (t := 29) (c := false) rfl rfl rfl rfl rfl
    try dsimp only [putL, setL, evL, getL]
    refine HL_cons rfl ?_
    refine o_pickF rfl rfl ?_
    try dsimp only [putL, setL, evL, getL]
    refine HL_cons rfl ?_
    refine o_move ?_
    try dsimp only [putL, setL, evL, getL]
    refine HL_skip ?_ ?_
    · exact wantF (j := 33) (b := true) (t := 36) (c := false) rfl rfl rfl rfl rfl
    try dsimp only [putL, setL, evL, getL]
    refine HL_skip ?_ ?_
    · exact wantF (j := 33) (b := true) (t := 36) (c := false) rfl rfl rfl rfl rfl
    try dsimp only [putL, setL, evL, getL]
    refine HL_skip ?_ ?_
    · exact wantF (j := 33) (b := true) (t := 36) (c := false) rfl rfl rfl rfl rfl
    try dsimp only [putL, setL, evL, getL]
    refine HL_skip ?_ ?_
    · exact wantF (j := 33) (b := true) (t := 36) (c := false) rfl rfl rfl rfl rfl
    try dsimp only [putL, setL, evL, getL]
    refine HL_cons rfl ?_
    refine o_pickF rfl rfl ?_
    try dsimp only [putL, setL, evL, getL]
    refine HL_cons rfl ?_
    refine o_assign ?_
    try dsimp only [putL, setL, evL, getL]
    refine HL_nil ?_
    refine hK3 _ _ ?_
    refine HT_ret ?_
    obtain rfl := Option.some.inj (show some _ = some r from H)
    exact hQr _ _ [.bool false] ⟨rfl, trivial⟩ ⟨rfl, hH.sel [] (by decide)⟩
def impl_areRunes_1.f (p0 : Int) : Option Bool := (impl_GoodRune.f p0).bind fun u3 => some (!u3)
def impl_areRunes_1.post (sb s : St) (F0 : Fp) (r : Bool) : Value → St → Prop := fun v s' => v = .bool r ∧ Hp sb s F0 s' []
set_option maxRecDepth 100000 in
set_option maxHeartbeats 4000000 in
theorem impl_areRunes_1.ok (sb s : St) (F0 : Fp) (p0 : Int) (hH : Hp sb s F0 s []) (r : Bool) (H : impl_areRunes_1.f p0 = some r) : GCall Try.prog 153 #[.int .i64 p0] s (impl_areRunes_1.post sb s F0 r) := by
  refine GCall_ofk [.tmp 2] [.int .i64 p0, undef, undef, undef, undef, undef] Try.func153 rfl rfl rfl ?_
  intro w Q hQr hQn hQp
  replace H := topE H
  unfold impl_areRunes_1.f at H
  refine HT_seq_k ?_
  intro K1 hK1
  refine HT_region ?_
  refine HL_cons rfl ?_
  refine o_assign ?_
  try dsimp only [putL, setL, evL, getL]
  refine HL_nil ?_
  refine hK1 _ _ ?_
  refine HT_seq_k ?_
  intro K2 hK2
  refine HT_region ?_
  refine HL_cons rfl ?_
  refine o_move ?_
  try dsimp only [putL, setL, evL, getL]
  obtain ⟨u3, hu3, H⟩ := headE H
  refine HL_cons rfl ?_
  refine o_call (args := #[.int .i64 p0]) Try.func147 rfl rfl rfl (impl_GoodRune.ok sb s no p0 (Hp.own hH.bs) _ hu3) ?_
  rintro _ s3 ⟨rfl, hD⟩
  replace hH := hH.back0 hD (Up.refl _ _ _)
  clear hD
  dsimp only [addC, setC, rmC, selC, getC] at hH
  try dsimp only [putL, setL, evL, getL]
  refine HL_cons rfl ?_
  refine o_not rfl ?_
  try dsimp only [putL, setL, evL, getL]
  refine HL_cons rfl ?_
  refine o_assign ?_
  try dsimp only [putL, setL, evL, getL]
  refine HL_nil ?_
  refine hK2 _ _ ?_
  refine HT_ret ?_
  obtain rfl := Option.some.inj (show some _ = some r from H)
  exact hQr _ _ [.bool (!u3)] ⟨rfl, trivial⟩ ⟨rfl, hH⟩
def slices_IndexFunc_int_int_impl_areRunes_1.l1 (p0 : List (Int)) : Nat → Int → Option (Lo Unit Int)
  | 0, _ => none
  | kf + 1, x48 => if (decide (x48 < (p0.length : Int))) = true then ((rd? p0 x48).bind fun u67 => (impl_areRunes_1.f u67).bind fun u68 => if u68 = true then ((some x48).bind fun z => some (Lo.ret z)) else (slices_IndexFunc_int_int_impl_areRunes_1.l1 p0 kf (IntKind.i64.wrap (x48 + 1)))) else (some (Lo.go ()))
def slices_IndexFunc_int_int_impl_areRunes_1.f (p0 : List (Int)) : Option Int := (slices_IndexFunc_int_int_impl_areRunes_1.l1 p0 ((((p0.length : Int)) - (0)).toNat + 2) 0).bind fun (o : Lo Unit Int) => match o with | .go () => (some (-1)) | .ret z => some z
def slices_IndexFunc_int_int_impl_areRunes_1.post (sb s : St) (F0 : Fp) (r : Int) : Value → St → Prop := fun v s' => v = .int .i64 r ∧ Hp sb s F0 s' []
set_option maxRecDepth 100000 in
set_option maxHeartbeats 4000000 in
theorem slices_IndexFunc_int_int_impl_areRunes_1.ok (sb s : St) (F0 : Fp) (A0p : Option Addr) (c0p : Nat) (p0 : List (Int)) (HRp0 : Rd KI sb A0p c0p p0) (hH : Hp sb s F0 s []) (r : Int) (H : slices_IndexFunc_int_int_impl_areRunes_1.f p0 = some r) : GCall Try.prog 151 #[.slice A0p p0.length c0p, .func (.func 153) #[] #[]] s (slices_IndexFunc_int_int_impl_areRunes_1.post sb s F0 r) := by
  refine GCall_ofk [.tmp 4] [.slice A0p p0.length c0p, .func (.func 153) #[] #[], undef, undef, undef, undef, undef, undef, undef, undef, undef, undef, undef, undef, undef, undef, undef, undef, undef] Try.func151 rfl rfl rfl ?_
  intro w Q hQr hQn hQp
  replace H := topE H
  unfold slices_IndexFunc_int_int_impl_areRunes_1.f at H
  refine HT_seq_k ?_
  intro K1 hK1
  refine HT_region ?_
  refine HL_cons rfl ?_
  refine o_assign ?_
  try dsimp only [putL, setL, evL, getL]
  refine HL_nil ?_
  refine hK1 _ _ ?_
  refine HT_seq_k ?_
  intro K2 hK2
  refine HT_seq_k ?_
  intro K3 hK3
  refine HT_region ?_
  refine HL_cons rfl ?_
  refine o_move ?_
  try dsimp only [putL, setL, evL, getL]
  refine HL_cons rfl ?_
  refine o_len rfl Try.underlying22 ?_
  try dsimp only [putL, setL, evL, getL]
  refine HL_cons rfl ?_
  refine o_move ?_
  try dsimp only [putL, setL, evL, getL]
  refine HL_nil ?_
  refine hK3 _ _ ?_
  refine joinH H fun G4 hG4 H => ?_
  refine HT_toK (fun l' s' => G4 (.go ()) = some r ∧ l' = [.slice A0p p0.length c0p, .func (.func 153) #[] #[], undef, undef, getL l' 4, getL l' 5, .slice A0p p0.length c0p, .int .i64 (p0.length : Int), getL l' 8, getL l' 9, getL l' 10, getL l' 11, getL l' 12, getL l' 13, getL l' 14, getL l' 15, getL l' 16, getL l' 17, getL l' 18] ∧ Hp sb s F0 s' []) ?_ ?_
  · intro K4 hK4
    refine HT_block ?_
    refine HT_loopK (fun kf l' s' => ∃ (x48 : Int), (slices_IndexFunc_int_int_impl_areRunes_1.l1 p0 kf x48).bind G4 = some r ∧ l' = [.slice A0p p0.length c0p, .func (.func 153) #[] #[], undef, undef, getL l' 4, getL l' 5, .slice A0p p0.length c0p, .int .i64 (p0.length : Int), .int .i64 x48, getL l' 9, getL l' 10, getL l' 11, getL l' 12, getL l' 13, getL l' 14, getL l' 15, getL l' 16, getL l' 17, getL l' 18] ∧ Hp sb s F0 s' []) ((((p0.length : Int)) - (0)).toNat + 2) ⟨0, H, rfl, hH⟩ ?_
    rintro kf l' s60 ⟨x48, H, hl, hH⟩ K60 hK60
    generalize getL l' 4 = j4, getL l' 5 = j5, getL l' 9 = j9, getL l' 10 = j10, getL l' 11 = j11, getL l' 12 = j12, getL l' 13 = j13, getL l' 14 = j14, getL l' 15 = j15, getL l' 16 = j16, getL l' 17 = j17, getL l' 18 = j18 at hl
    subst hl
    cases kf with
    | zero => simp [slices_IndexFunc_int_int_impl_areRunes_1.l1] at H
    | succ kf =>
      rw [slices_IndexFunc_int_int_impl_areRunes_1.l1] at H
      refine HT_seq_k ?_
      intro K61 hK61
      refine HT_region ?_
      refine HL_cons rfl ?_
      refine o_bin rfl rfl rfl ?_
      try dsimp only [putL, setL, evL, getL]
      refine HL_nil ?_
      refine hK61 _ _ ?_
      refine HT_seq_k ?_
      intro K62 hK62
      rcases Bool.eq_false_or_eq_true (decide (x48 < (p0.length : Int))) with hb63 | hb63
      · replace H := iteT hb63 H
        refine HT_true (congrArg Value.bool hb63) ?_
        refine HT_skip ?_
        refine hK62 _ _ ?_
        refine HT_seq_k ?_
        intro K64 hK64
        refine HT_block ?_
        refine HT_seq_k ?_
        intro K65 hK65
        refine HT_region ?_
        refine HL_cons rfl ?_
        refine o_move ?_
        try dsimp only [putL, setL, evL, getL]
        refine HL_cons rfl ?_
        refine o_assign ?_
        try dsimp only [putL, setL, evL, getL]
        refine HL_nil ?_
        refine hK65 _ _ ?_
        refine HT_seq_k ?_
        intro K66 hK66
        refine HT_region ?_
        refine HL_cons rfl ?_
        refine o_move ?_
        try dsimp only [putL, setL, evL, getL]
        refine HL_cons rfl ?_
        refine o_move ?_
        try dsimp only [putL, setL, evL, getL]
        refine HL_cons rfl ?_
        refine o_move ?_
        try dsimp only [putL, setL, evL, getL]
        obtain ⟨u67, hu67, H⟩ := headE H
        obtain ⟨b67, o67, cs67, hr67, hh67, hel67⟩ := Rd.elb HRp0 hu67
        obtain rfl := hr67
        refine HL_cons rfl ?_
        refine hel67 s60 rfl rfl Try.underlying22 tI3 ?_
        try dsimp only [putL, setL, evL, getL]
        refine HL_cons rfl ?_
        refine o_load' rfl Try.underlying3 rfl ((hh67 hH.bs.mono) 0 _ rfl) ?_
        try dsimp only [putL, setL, evL, getL]
        obtain ⟨u68, hu68, H⟩ := headE H
        refine HL_cons rfl ?_
        refine o_callv (first := #[]) (cap := #[]) (args := #[.int .i64 u67]) rfl Try.func153 rfl rfl [.int .i64 u67] rfl (by simp) (impl_areRunes_1.ok sb s60 no u67 (Hp.own hH.bs) _ hu68) ?_
        rintro _ s68 ⟨rfl, hD⟩
        replace hH := hH.back0 hD (Up.refl _ _ _)
        clear hD
        dsimp only [addC, setC, rmC, selC, getC] at hH
        try dsimp only [putL, setL, evL, getL]
        refine HL_nil ?_
        refine hK66 _ _ ?_
        rcases Bool.eq_false_or_eq_true u68 with hb69 | hb69
        · replace H := iteT hb69 H
          refine HT_true (congrArg Value.bool hb69) ?_
          refine HT_seq_k ?_
          intro K70 hK70
          refine HT_region ?_
          refine HL_cons rfl ?_
          refine o_move ?_
          try dsimp only [putL, setL, evL, getL]
          refine HL_cons rfl ?_
          refine o_assign ?_
          try dsimp only [putL, setL, evL, getL]
          refine HL_nil ?_
          refine hK70 _ _ ?_
          refine HT_ret ?_
          replace H := escH (fun z hz => hG4 _ hz) H
          obtain rfl := Option.some.inj (show some _ = some r from H)
          exact hQr _ _ [.int .i64 x48] ⟨rfl, trivial⟩ ⟨rfl, hH⟩
        · replace H := iteF hb69 H
          refine HT_false (congrArg Value.bool hb69) ?_
          refine HT_skip ?_
          refine hK64 _ _ ?_
          refine HT_region ?_
          refine HL_cons rfl ?_
          refine o_bin rfl rfl rfl ?_
          try dsimp only [putL, setL, evL, getL]
          refine HL_cons rfl ?_
          refine o_move ?_
          try dsimp only [putL, setL, evL, getL]
          refine HL_nil ?_
          exact hK60 _ _ ⟨kf, Nat.lt_succ_self kf, IntKind.i64.wrap (x48 + 1), H, rfl, hH⟩
      · replace H := iteF hb63 H
        refine HT_false (congrArg Value.bool hb63) ?_
        refine HT_exit ?_
        exact hK4 _ _ ⟨H, rfl, hH⟩
  · rintro l' s71 ⟨H, hl, hH⟩
    generalize getL l' 4 = j4, getL l' 5 = j5, getL l' 8 = j8, getL l' 9 = j9, getL l' 10 = j10, getL l' 11 = j11, getL l' 12 = j12, getL l' 13 = j13, getL l' 14 = j14, getL l' 15 = j15, getL l' 16 = j16, getL l' 17 = j17, getL l' 18 = j18 at hl
    subst hl
    replace H := hG4 _ H
    try dsimp only at H
    refine hK2 _ _ ?_
    refine HT_seq_k ?_
    intro K72 hK72
    refine HT_region ?_
    refine HL_cons rfl ?_
    refine o_assign ?_
    try dsimp only [putL, setL, evL, getL]
    refine HL_nil ?_
    refine hK72 _ _ ?_
    refine HT_ret ?_
    obtain rfl := Option.some.inj (show some _ = some r from H)
    exact hQr _ _ [.int .i64 (-1)] ⟨rfl, trivial⟩ ⟨rfl, hH⟩
def slices_ContainsFunc_int_int_impl_areRunes_1.f (p0 : List (Int)) : Option Bool := (slices_IndexFunc_int_int_impl_areRunes_1.f p0).bind fun u3 => some (decide (u3 ≥ 0))
def slices_ContainsFunc_int_int_impl_areRunes_1.post (sb s : St) (F0 : Fp) (r : Bool) : Value → St → Prop := fun v s' => v = .bool r ∧ Hp sb s F0 s' []
set_option maxRecDepth 100000 in
set_option maxHeartbeats 4000000 in
theorem slices_ContainsFunc_int_int_impl_areRunes_1.ok (sb s : St) (F0 : Fp) (A0p : Option Addr) (c0p : Nat) (p0 : List (Int)) (HRp0 : Rd KI sb A0p c0p p0) (hH : Hp sb s F0 s []) (r : Bool) (H : slices_ContainsFunc_int_int_impl_areRunes_1.f p0 = some r) : GCall Try.prog 110 #[.slice A0p p0.length c0p, .func (.func 153) #[] #[]] s (slices_ContainsFunc_int_int_impl_areRunes_1.post sb s F0 r) := by
  refine GCall_ofk [.tmp 4] [.slice A0p p0.length c0p, .func (.func 153) #[] #[], undef, undef, undef, undef, undef, undef, undef] Try.func110 rfl rfl rfl ?_
  intro w Q hQr hQn hQp
  replace H := topE H
  unfold slices_ContainsFunc_int_int_impl_areRunes_1.f at H
  refine HT_seq_k ?_
  intro K1 hK1
  refine HT_region ?_
  refine HL_cons rfl ?_
  refine o_assign ?_
  try dsimp only [putL, setL, evL, getL]
  refine HL_nil ?_
  refine hK1 _ _ ?_
  refine HT_seq_k ?_
  intro K2 hK2
  refine HT_region ?_
  refine HL_cons rfl ?_
  refine o_move ?_
  try dsimp only [putL, setL, evL, getL]
  refine HL_cons rfl ?_
  refine o_move ?_
  try dsimp only [putL, setL, evL, getL]
  obtain ⟨u3, hu3, H⟩ := headE H
  refine HL_cons rfl ?_
  refine o_call (args := #[.slice A0p p0.length c0p, .func (.func 153) #[] #[]]) Try.func151 rfl rfl rfl (slices_IndexFunc_int_int_impl_areRunes_1.ok sb s no A0p c0p p0 HRp0 (Hp.own hH.bs) _ hu3) ?_
  rintro _ s3 ⟨rfl, hD⟩
  replace hH := hH.back0 hD (Up.refl _ _ _)
  clear hD
  dsimp only [addC, setC, rmC, selC, getC] at hH
  try dsimp only [putL, setL, evL, getL]
  refine HL_cons rfl ?_
  refine o_bin rfl rfl rfl ?_
  try dsimp only [putL, setL, evL, getL]
  refine HL_cons rfl ?_
  refine o_assign ?_
  try dsimp only [putL, setL, evL, getL]
  refine HL_nil ?_
  refine hK2 _ _ ?_
  refine HT_ret ?_
  obtain rfl := Option.some.inj (show some _ = some r from H)
  exact hQr _ _ [.bool (decide (u3 ≥ 0))] ⟨rfl, trivial⟩ ⟨rfl, hH⟩
def impl_areRunes.f (p0 : List (Int)) (p1 : Int) : Option Bool := if (decide ((p0.length : Int) ≤ p1)) = true then ((slices_ContainsFunc_int_int_impl_areRunes_1.f p0).bind fun u4 => some (!u4)) else (some false)
def impl_areRunes.post (sb s : St) (F0 : Fp) (r : Bool) : Value → St → Prop := fun v s' => v = .bool r ∧ Hp sb s F0 s' []
set_option maxRecDepth 100000 in
set_option maxHeartbeats 4000000 in
theorem impl_areRunes.ok (sb s : St) (F0 : Fp) (A0p : Option Addr) (c0p : Nat) (p0 : List (Int)) (p1 : Int) (HRp0 : Rd KI sb A0p c0p p0) (hH : Hp sb s F0 s []) (r : Bool) (H : impl_areRunes.f p0 p1 = some r) : GCall Try.prog 113 #[.slice A0p p0.length c0p, .int .i64 p1] s (impl_areRunes.post sb s F0 r) := by
  refine GCall_ofk [.tmp 4] [.slice A0p p0.length c0p, .int .i64 p1, undef, undef, undef, undef, undef, undef, undef, undef, undef, undef, undef, undef] Try.func113 rfl rfl rfl ?_
  intro w Q hQr hQn hQp
  replace H := topE H
  unfold impl_areRunes.f at H
  refine HT_seq_k ?_
  intro K1 hK1
  refine HT_region ?_
  refine HL_cons rfl ?_
  refine o_assign ?_
  try dsimp only [putL, setL, evL, getL]
  refine HL_nil ?_
  refine hK1 _ _ ?_
  refine HT_seq_k ?_
  intro K2 hK2
  refine HT_region ?_
  refine HL_cons rfl ?_
  refine o_move ?_
  try dsimp only [putL, setL, evL, getL]
  refine HL_cons rfl ?_
  refine o_len rfl Try.underlying22 ?_
  try dsimp only [putL, setL, evL, getL]
  refine HL_cons rfl ?_
  refine o_move ?_
  try dsimp only [putL, setL, evL, getL]
  refine HL_cons rfl ?_
  refine o_bin rfl rfl rfl ?_
  try dsimp only [putL, setL, evL, getL]
  refine HL_cons rfl ?_
  refine o_move ?_
  try dsimp only [putL, setL, evL, getL]
  rcases Bool.eq_false_or_eq_true (decide ((p0.length : Int) ≤ p1)) with hb3 | hb3
  · replace H := iteT hb3 H
    refine HL_want ?_ ?_
    · exact wantT (j := 4) (b := true) (t := 9) (c := decide ((p0.length : Int) ≤ p1)) rfl rfl rfl rfl hb3
    refine o_move ?_
    try dsimp only [putL, setL, evL, getL]
    obtain ⟨u4, hu4, H⟩ := headE H
    refine HL_want ?_ ?_
    · exact wantT (j := 4) (b := true) (t := 9) (c := decide ((p0.length : Int) ≤ p1)) rfl rfl rfl rfl hb3
    refine o_call (args := #[.slice A0p p0.length c0p, .func (.func 153) #[] #[]]) Try.func110 rfl rfl rfl (slices_ContainsFunc_int_int_impl_areRunes_1.ok sb s no A0p c0p p0 HRp0 (Hp.own hH.bs) _ hu4) ?_
    rintro _ s4 ⟨rfl, hD⟩
    replace hH := hH.back0 hD (Up.refl _ _ _)
    clear hD
    dsimp only [addC, setC, rmC, selC, getC] at hH
    try dsimp only [putL, setL, evL, getL]
    refine HL_want ?_ ?_
    · exact wantT (j := 4) (b := true) (t := 9) (c := decide ((p0.length : Int) ≤ p1)) rfl rfl rfl rfl hb3
    refine o_not rfl ?_
    try dsimp only [putL, setL, evL, getL]
    refine HL_cons rfl ?_
    refine o_pickT rfl hb3 ?_
    try dsimp only [putL, setL, evL, getL]
    refine HL_cons rfl ?_
    refine o_assign ?_
    try dsimp only [putL, setL, evL, getL]
    refine HL_nil ?_
    refine hK2 _ _ ?_
    refine HT_ret ?_
    obtain rfl := Option.some.inj (show some _ = some r from H)
    exact hQr _ _ [.bool (!u4)] ⟨rfl, trivial⟩ ⟨rfl, hH⟩
  · replace H := iteF hb3 H
    refine HL_skip ?_ ?_
    · exact wantF (j := 4) (b := true) (t := 9) (c := decide ((p0.length : Int) ≤ p1)) rfl rfl rfl rfl hb3
    try dsimp only [putL, setL, evL, getL]
    refine HL_skip ?_ ?_
    · exact wantF (j := 4) (b := true) (t := 9) (c := decide ((p0.length : Int) ≤ p1)) rfl rfl rfl rfl hb3
    try dsimp only [putL, setL, evL, getL]
    refine HL_skip ?_ ?_
    · exact wantF (j := 4) (b := true) (t := 9) (c := decide ((p0.length : Int) ≤ p1)) rfl rfl rfl rfl hb3
    try dsimp only [putL, setL, evL, getL]
    refine HL_cons rfl ?_
    refine o_pickF rfl hb3 ?_
    try dsimp only [putL, setL, evL, getL]
    refine HL_cons rfl ?_
    refine o_assign ?_
    try dsimp only [putL, setL, evL, getL]
    refine HL_nil ?_
    refine hK2 _ _ ?_
    refine HT_ret ?_
    obtain rfl := Option.some.inj (show some _ = some r from H)
    exact hQr _ _ [.bool false] ⟨rfl, trivial⟩ ⟨rfl, hH⟩
def slices_Clone_int_int.f (p0 : List (Int)) : Option (List (Int)) := app? 17592186044416 [] p0
def slices_Clone_int_int.post (sb s : St) (F0 : Fp) (r : List (Int)) : Value → St → Prop := fun v s' => ∃ (A0 : Option Addr) (c0 : Nat), v = .slice A0 r.length c0 ∧ Hp sb s F0 s' [Ck.ol OI 3 A0 c0 r]
set_option maxRecDepth 100000 in
set_option maxHeartbeats 4000000 in
theorem slices_Clone_int_int.ok (sb s : St) (F0 : Fp) (A0p : Option Addr) (c0p : Nat) (p0 : List (Int)) (HRp0 : Rd KI sb A0p c0p p0) (hH : Hp sb s F0 s []) (r : List (Int)) (H : slices_Clone_int_int.f p0 = some r) : GCall Try.prog 94 #[.slice A0p p0.length c0p] s (slices_Clone_int_int.post sb s F0 r) := by
  refine GCall_ofk [.tmp 2] [.slice A0p p0.length c0p, undef, undef, undef, undef, undef, undef, undef] Try.func94 rfl rfl rfl ?_
  intro w Q hQr hQn hQp
  unfold slices_Clone_int_int.f at H
  refine HT_seq_k ?_
  intro K1 hK1
  refine HT_region ?_
  refine HL_cons rfl ?_
  refine o_assign ?_
  refine HL_nil ?_
  refine hK1 _ _ ?_
  refine HT_seq_k ?_
  intro K2 hK2
  refine HT_seq_k ?_
  intro K3 hK3
  refine HT_region ?_
  refine HL_cons rfl ?_
  refine o_move ?_
  dsimp only [putL, setL, evL, getL]
  refine HL_cons rfl ?_
  refine o_eqN rfl rfl Try.underlying22 ?_
  dsimp only [putL, setL, evL, getL]
  refine HL_nil ?_
  refine hK3 _ _ ?_
  cases A0p with
  | none =>
    have hp : p0 = [] := by
      by_cases h : p0 = []
      · exact h
      · obtain ⟨b, o, hA, _⟩ := HRp0.2.2 h
        cases hA
    subst hp
    obtain ⟨_, rfl⟩ := app?_some H
    refine HT_true rfl ?_
    refine HT_seq_k ?_
    intro K4 hK4
    refine HT_region ?_
    refine HL_cons rfl ?_
    refine o_assign ?_
    dsimp only [putL, setL, evL, getL]
    refine HL_nil ?_
    refine hK4 _ _ ?_
    refine HT_ret ?_
    exact hQr _ _ [.slice none 0 0] ⟨rfl, trivial⟩ ⟨none, 0, rfl, hH.nil (K := KI) OI 3⟩
  | some a =>
    refine HT_false rfl ?_
    refine HT_skip ?_
    refine hK2 _ _ ?_
    refine HT_seq_k ?_
    intro K4 hK4
    refine HT_region ?_
    refine HL_cons rfl ?_
    refine o_lit0H (α := Int) (K := KI) (O := OI) hH Try.underlying22 tI3 ?_
    intro A1 s1 hH hG
    dsimp only [putL, setL, evL, getL]
    refine HL_cons rfl ?_
    refine o_move ?_
    dsimp only [putL, setL, evL, getL]
    refine HL_cons rfl ?_
    refine o_appF (n := 17592186044416) (A := A1) (c := 0) (xs := ([] : List (Int))) (ys := p0) (B := some a) (c2 := c0p) hH 0 rfl rfl rfl rfl Try.underlying22 tI3 rfl (by decide) (by decide) (by decide) (Src.flat (HRp0.mono hH.bs.mono)) H ?_
    intro A2 c2 s2 hH
    dsimp only [putL, setL, evL, getL]
    refine HL_cons rfl ?_
    refine o_assign ?_
    dsimp only [putL, setL, evL, getL]
    refine HL_nil ?_
    refine hK4 _ _ ?_
    refine HT_ret ?_
    exact hQr _ _ [.slice A2 r.length c2] ⟨rfl, trivial⟩ ⟨A2, c2, rfl, hH⟩
def bits_Mul32.f (p0 : Int) (p1 : Int) : Option (Int × Int) := (shrK? .u64 (IntKind.u64.wrap ((IntKind.u64.wrap p0) * (IntKind.u64.wrap p1))) 32).bind fun u4 => some ((IntKind.u32.wrap u4), (IntKind.u32.wrap (IntKind.u64.wrap ((IntKind.u64.wrap p0) * (IntKind.u64.wrap p1)))))
def bits_Mul32.post (sb s : St) (F0 : Fp) (r : Int × Int) : Value → St → Prop := fun v s' => v = .tuple #[.int .u32 r.1, .int .u32 r.2] ∧ Hp sb s F0 s' []
set_option maxRecDepth 100000 in
set_option maxHeartbeats 4000000 in
theorem bits_Mul32.ok (sb s : St) (F0 : Fp) (p0 : Int) (p1 : Int) (hH : Hp sb s F0 s []) (r : Int × Int) (H : bits_Mul32.f p0 p1 = some r) : GCall Try.prog 170 #[.int .u32 p0, .int .u32 p1] s (bits_Mul32.post sb s F0 r) := by
  refine GCall_ofk [.tmp 4, .tmp 5] [.int .u32 p0, .int .u32 p1, undef, undef, undef, undef, undef, undef, undef, undef, undef, undef, undef, undef, undef, undef, undef] Try.func170 rfl rfl rfl ?_
  intro w Q hQr hQn hQp
  replace H := topE H
  unfold bits_Mul32.f at H
  refine HT_seq_k ?_
  intro K1 hK1
  refine HT_region ?_
  refine HL_cons rfl ?_
  refine o_assign ?_
  try dsimp only [putL, setL, evL, getL]
  refine HL_cons rfl ?_
  refine o_assign ?_
  try dsimp only [putL, setL, evL, getL]
  refine HL_nil ?_
  refine hK1 _ _ ?_
  refine HT_seq_k ?_
  intro K2 hK2
  refine HT_region ?_
  refine HL_cons rfl ?_
  refine o_move ?_
  try dsimp only [putL, setL, evL, getL]
  refine HL_cons rfl ?_
  refine o_conv rfl Try.underlying170 Try.underlying123 ?_
  try dsimp only [putL, setL, evL, getL]
  refine HL_cons rfl ?_
  refine o_move ?_
  try dsimp only [putL, setL, evL, getL]
  refine HL_cons rfl ?_
  refine o_conv rfl Try.underlying170 Try.underlying123 ?_
  try dsimp only [putL, setL, evL, getL]
  refine HL_cons rfl ?_
  refine o_bin rfl rfl rfl ?_
  try dsimp only [putL, setL, evL, getL]
  refine HL_cons rfl ?_
  refine o_assign ?_
  try dsimp only [putL, setL, evL, getL]
  refine HL_nil ?_
  refine hK2 _ _ ?_
  refine HT_seq_k ?_
  intro K3 hK3
  refine HT_region ?_
  refine HL_cons rfl ?_
  refine o_move ?_
  try dsimp only [putL, setL, evL, getL]
  obtain ⟨u4, hu4, H⟩ := headE H
  refine HL_cons rfl ?_
  refine o_shrK rfl rfl hu4 ?_
  try dsimp only [putL, setL, evL, getL]
  refine HL_cons rfl ?_
  refine o_conv rfl Try.underlying123 Try.underlying170 ?_
  try dsimp only [putL, setL, evL, getL]
  refine HL_cons rfl ?_
  refine o_move ?_
  try dsimp only [putL, setL, evL, getL]
  refine HL_cons rfl ?_
  refine o_conv rfl Try.underlying123 Try.underlying170 ?_
  try dsimp only [putL, setL, evL, getL]
  refine HL_cons rfl ?_
  refine o_assign ?_
  try dsimp only [putL, setL, evL, getL]
  refine HL_cons rfl ?_
  refine o_assign ?_
  try dsimp only [putL, setL, evL, getL]
  refine HL_nil ?_
  refine hK3 _ _ ?_
  refine HT_ret ?_
  obtain rfl := Option.some.inj (show some _ = some r from H)
  exact hQr _ _ [.int .u32 (IntKind.u32.wrap u4), .int .u32 (IntKind.u32.wrap (IntKind.u64.wrap ((IntKind.u64.wrap p0) * (IntKind.u64.wrap p1))))] ⟨rfl, rfl, trivial⟩ ⟨rfl, hH⟩
def bits_Mul64.f (p0 : Int) (p1 : Int) : Option (Int × Int) := (shrK? .u64 p0 32).bind fun u4 => (shrK? .u64 p1 32).bind fun u7 => (shrK? .u64 (IntKind.u64.wrap ((bits .and .u64 p0 4294967295) * (bits .and .u64 p1 4294967295))) 32).bind fun u10 => (shrK? .u64 (IntKind.u64.wrap ((IntKind.u64.wrap (u4 * (bits .and .u64 p1 4294967295))) + u10)) 32).bind fun u13 => (shrK? .u64 (IntKind.u64.wrap ((bits .and .u64 (IntKind.u64.wrap ((IntKind.u64.wrap (u4 * (bits .and .u64 p1 4294967295))) + u10)) 4294967295) + (IntKind.u64.wrap ((bits .and .u64 p0 4294967295) * u7)))) 32).bind fun u16 => some ((IntKind.u64.wrap ((IntKind.u64.wrap ((IntKind.u64.wrap (u4 * u7)) + u13)) + u16)), (IntKind.u64.wrap (p0 * p1)))
def bits_Mul64.post (sb s : St) (F0 : Fp) (r : Int × Int) : Value → St → Prop := fun v s' => v = .tuple #[.int .u64 r.1, .int .u64 r.2] ∧ Hp sb s F0 s' []
set_option maxRecDepth 100000 in
set_option maxHeartbeats 4000000 in
theorem bits_Mul64.ok (sb s : St) (F0 : Fp) (p0 : Int) (p1 : Int) (hH : Hp sb s F0 s []) (r : Int × Int) (H : bits_Mul64.f p0 p1 = some r) : GCall Try.prog 171 #[.int .u64 p0, .int .u64 p1] s (bits_Mul64.post sb s F0 r) := by
  refine GCall_ofk [.tmp 4, .tmp 5] [.int .u64 p0, .int .u64 p1, undef, undef, undef, undef, undef, undef, undef, undef, undef, undef, undef, undef, undef, undef, undef, undef, undef, undef, undef, undef, undef, undef, undef, undef, undef, undef, undef, undef, undef, undef, undef, undef, undef, undef, undef, undef, undef, undef, undef, undef, undef, undef, undef, undef, undef, undef, undef, undef, undef] Try.func171 rfl rfl rfl ?_
  intro w Q hQr hQn hQp
  replace H := topE H
  unfold bits_Mul64.f at H
  refine HT_seq_k ?_
  intro K1 hK1
  refine HT_region ?_
  refine HL_cons rfl ?_
  refine o_assign ?_
  try dsimp only [putL, setL, evL, getL]
  refine HL_cons rfl ?_
  refine o_assign ?_
  try dsimp only [putL, setL, evL, getL]
  refine HL_nil ?_
  refine hK1 _ _ ?_
  refine HT_seq_k ?_
  intro K2 hK2
  refine HT_region ?_
  refine HL_cons rfl ?_
  refine o_move ?_
  try dsimp only [putL, setL, evL, getL]
  refine HL_cons rfl ?_
  refine o_bin rfl rfl rfl ?_
  try dsimp only [putL, setL, evL, getL]
  refine HL_cons rfl ?_
  refine o_assign ?_
  try dsimp only [putL, setL, evL, getL]
  refine HL_nil ?_
  refine hK2 _ _ ?_
  refine HT_seq_k ?_
  intro K3 hK3
  refine HT_region ?_
  refine HL_cons rfl ?_
  refine o_move ?_
  try dsimp only [putL, setL, evL, getL]
  obtain ⟨u4, hu4, H⟩ := headE H
  refine HL_cons rfl ?_
  refine o_shrK rfl rfl hu4 ?_
  try dsimp only [putL, setL, evL, getL]
  refine HL_cons rfl ?_
  refine o_assign ?_
  try dsimp only [putL, setL, evL, getL]
  refine HL_nil ?_
  refine hK3 _ _ ?_
  refine HT_seq_k ?_
  intro K5 hK5
  refine HT_region ?_
  refine HL_cons rfl ?_
  refine o_move ?_
  try dsimp only [putL, setL, evL, getL]
  refine HL_cons rfl ?_
  refine o_bin rfl rfl rfl ?_
  try dsimp only [putL, setL, evL, getL]
  refine HL_cons rfl ?_
  refine o_assign ?_
  try dsimp only [putL, setL, evL, getL]
  refine HL_nil ?_
  refine hK5 _ _ ?_
  refine HT_seq_k ?_
  intro K6 hK6
  refine HT_region ?_
  refine HL_cons rfl ?_
  refine o_move ?_
  try dsimp only [putL, setL, evL, getL]
  obtain ⟨u7, hu7, H⟩ := headE H
  refine HL_cons rfl ?_
  refine o_shrK rfl rfl hu7 ?_
  try dsimp only [putL, setL, evL, getL]
  refine HL_cons rfl ?_
  refine o_assign ?_
  try dsimp only [putL, setL, evL, getL]
  refine HL_nil ?_
  refine hK6 _ _ ?_
  refine HT_seq_k ?_
  intro K8 hK8
  refine HT_region ?_
  refine HL_cons rfl ?_
  refine o_move ?_
  try dsimp only [putL, setL, evL, getL]
  refine HL_cons rfl ?_
  refine o_move ?_
  try dsimp only [putL, setL, evL, getL]
  refine HL_cons rfl ?_
  refine o_bin rfl rfl rfl ?_
  try dsimp only [putL, setL, evL, getL]
  refine HL_cons rfl ?_
  refine o_assign ?_
  try dsimp only [putL, setL, evL, getL]
  refine HL_nil ?_
  refine hK8 _ _ ?_
  refine HT_seq_k ?_
  intro K9 hK9
  refine HT_region ?_
  refine HL_cons rfl ?_
  refine o_move ?_
  try dsimp only [putL, setL, evL, getL]
  refine HL_cons rfl ?_
  refine o_move ?_
  try dsimp only [putL, setL, evL, getL]
  refine HL_cons rfl ?_
  refine o_bin rfl rfl rfl ?_
  try dsimp only [putL, setL, evL, getL]
  refine HL_cons rfl ?_
  refine o_move ?_
  try dsimp only [putL, setL, evL, getL]
  obtain ⟨u10, hu10, H⟩ := headE H
  refine HL_cons rfl ?_
  refine o_shrK rfl rfl hu10 ?_
  try dsimp only [putL, setL, evL, getL]
  refine HL_cons rfl ?_
  refine o_bin rfl rfl rfl ?_
  try dsimp only [putL, setL, evL, getL]
  refine HL_cons rfl ?_
  refine o_assign ?_
  try dsimp only [putL, setL, evL, getL]
  refine HL_nil ?_
  refine hK9 _ _ ?_
  refine HT_seq_k ?_
  intro K11 hK11
  refine HT_region ?_
  refine HL_cons rfl ?_
  refine o_move ?_
  try dsimp only [putL, setL, evL, getL]
  refine HL_cons rfl ?_
  refine o_bin rfl rfl rfl ?_
  try dsimp only [putL, setL, evL, getL]
  refine HL_cons rfl ?_
  refine o_assign ?_
  try dsimp only [putL, setL, evL, getL]
  refine HL_nil ?_
  refine hK11 _ _ ?_
  refine HT_seq_k ?_
  intro K12 hK12
  refine HT_region ?_
  refine HL_cons rfl ?_
  refine o_move ?_
  try dsimp only [putL, setL, evL, getL]
  obtain ⟨u13, hu13, H⟩ := headE H
  refine HL_cons rfl ?_
  refine o_shrK rfl rfl hu13 ?_
  try dsimp only [putL, setL, evL, getL]
  refine HL_cons rfl ?_
  refine o_assign ?_
  try dsimp only [putL, setL, evL, getL]
  refine HL_nil ?_
  refine hK12 _ _ ?_
  refine HT_seq_k ?_
  intro K14 hK14
  refine HT_region ?_
  refine HL_cons rfl ?_
  refine o_move ?_
  try dsimp only [putL, setL, evL, getL]
  refine HL_cons rfl ?_
  refine o_move ?_
  try dsimp only [putL, setL, evL, getL]
  refine HL_cons rfl ?_
  refine o_move ?_
  try dsimp only [putL, setL, evL, getL]
  refine HL_cons rfl ?_
  refine o_bin rfl rfl rfl ?_
  try dsimp only [putL, setL, evL, getL]
  refine HL_cons rfl ?_
  refine o_bin rfl rfl rfl ?_
  try dsimp only [putL, setL, evL, getL]
  refine HL_cons rfl ?_
  refine o_assign ?_
  try dsimp only [putL, setL, evL, getL]
  refine HL_nil ?_
  refine hK14 _ _ ?_
  refine HT_seq_k ?_
  intro K15 hK15
  refine HT_region ?_
  refine HL_cons rfl ?_
  refine o_move ?_
  try dsimp only [putL, setL, evL, getL]
  refine HL_cons rfl ?_
  refine o_move ?_
  try dsimp only [putL, setL, evL, getL]
  refine HL_cons rfl ?_
  refine o_bin rfl rfl rfl ?_
  try dsimp only [putL, setL, evL, getL]
  refine HL_cons rfl ?_
  refine o_move ?_
  try dsimp only [putL, setL, evL, getL]
  refine HL_cons rfl ?_
  refine o_bin rfl rfl rfl ?_
  try dsimp only [putL, setL, evL, getL]
  refine HL_cons rfl ?_
  refine o_move ?_
  try dsimp only [putL, setL, evL, getL]
  obtain ⟨u16, hu16, H⟩ := headE H
  refine HL_cons rfl ?_
  refine o_shrK rfl rfl hu16 ?_
  try dsimp only [putL, setL, evL, getL]
  refine HL_cons rfl ?_
  refine o_bin rfl rfl rfl ?_
  try dsimp only [putL, setL, evL, getL]
  refine HL_cons rfl ?_
  refine o_assign ?_
  try dsimp only [putL, setL, evL, getL]
  refine HL_nil ?_
  refine hK15 _ _ ?_
  refine HT_seq_k ?_
  intro K17 hK17
  refine HT_region ?_
  refine HL_cons rfl ?_
  refine o_move ?_
  try dsimp only [putL, setL, evL, getL]
  refine HL_cons rfl ?_
  refine o_move ?_
  try dsimp only [putL, setL, evL, getL]
  refine HL_cons rfl ?_
  refine o_bin rfl rfl rfl ?_
  try dsimp only [putL, setL, evL, getL]
  refine HL_cons rfl ?_
  refine o_assign ?_
  try dsimp only [putL, setL, evL, getL]
  refine HL_nil ?_
  refine hK17 _ _ ?_
  refine HT_ret ?_
  obtain rfl := Option.some.inj (show some _ = some r from H)
  exact hQr _ _ [.int .u64 (IntKind.u64.wrap ((IntKind.u64.wrap ((IntKind.u64.wrap (u4 * u7)) + u13)) + u16)), .int .u64 (IntKind.u64.wrap (p0 * p1))] ⟨rfl, rfl, trivial⟩ ⟨rfl, hH⟩
def bits_Mul.f (p0 : Int) (p1 : Int) : Option (Int × Int) := if false = true then ((bits_Mul32.f (IntKind.u32.wrap p0) (IntKind.u32.wrap p1)).bind fun u5 => some ((IntKind.u64.wrap u5.1), (IntKind.u64.wrap u5.2))) else ((bits_Mul64.f p0 p1).bind fun u8 => some (u8.1, u8.2))
def bits_Mul.post (sb s : St) (F0 : Fp) (r : Int × Int) : Value → St → Prop := fun v s' => v = .tuple #[.int .u64 r.1, .int .u64 r.2] ∧ Hp sb s F0 s' []
set_option maxRecDepth 100000 in
set_option maxHeartbeats 4000000 in
theorem bits_Mul.ok (sb s : St) (F0 : Fp) (p0 : Int) (p1 : Int) (hH : Hp sb s F0 s []) (r : Int × Int) (H : bits_Mul.f p0 p1 = some r) : GCall Try.prog 169 #[.int .u64 p0, .int .u64 p1] s (bits_Mul.post sb s F0 r) := by
  refine GCall_ofk [.tmp 4, .tmp 5] [.int .u64 p0, .int .u64 p1, undef, undef, undef, undef, undef, undef, undef, undef, undef, undef, undef, undef, undef, undef, undef, undef, undef, undef, undef, undef, undef, undef, undef, undef, undef, undef, undef, undef] Try.func169 rfl rfl rfl ?_
  intro w Q hQr hQn hQp
  replace H := topE H
  unfold bits_Mul.f at H
  refine HT_seq_k ?_
  intro K1 hK1
  refine HT_region ?_
  refine HL_cons rfl ?_
  refine o_assign ?_
  try dsimp only [putL, setL, evL, getL]
  refine HL_cons rfl ?_
  refine o_assign ?_
  try dsimp only [putL, setL, evL, getL]
  refine HL_nil ?_
  refine hK1 _ _ ?_
  refine HT_seq_k ?_
  intro K2 hK2
  rcases Bool.eq_false_or_eq_true false with hb3 | hb3
  · replace H := iteT hb3 H
    refine HT_true (congrArg Value.bool hb3) ?_
    refine HT_seq_k ?_
    intro K4 hK4
    refine HT_region ?_
    refine HL_cons rfl ?_
    refine o_move ?_
    try dsimp only [putL, setL, evL, getL]
    refine HL_cons rfl ?_
    refine o_conv rfl Try.underlying129 Try.underlying170 ?_
    try dsimp only [putL, setL, evL, getL]
    refine HL_cons rfl ?_
    refine o_move ?_
    try dsimp only [putL, setL, evL, getL]
    refine HL_cons rfl ?_
    refine o_conv rfl Try.underlying129 Try.underlying170 ?_
    try dsimp only [putL, setL, evL, getL]
    obtain ⟨u5, hu5, H⟩ := headE H
    refine HL_cons rfl ?_
    refine o_call (args := #[.int .u32 (IntKind.u32.wrap p0), .int .u32 (IntKind.u32.wrap p1)]) Try.func170 rfl rfl rfl (bits_Mul32.ok sb s no (IntKind.u32.wrap p0) (IntKind.u32.wrap p1) (Hp.own hH.bs) _ hu5) ?_
    rintro _ s5 ⟨rfl, hD⟩
    replace hH := hH.back0 hD (Up.refl _ _ _)
    clear hD
    dsimp only [addC, setC, rmC, selC, getC] at hH
    try dsimp only [putL, setL, evL, getL]
    refine HL_cons rfl ?_
    refine o_move ?_
    try dsimp only [putL, setL, evL, getL]
    refine HL_cons rfl ?_
    refine o_extract rfl rfl ?_
    try dsimp only [putL, setL, evL, getL]
    refine HL_cons rfl ?_
    refine o_extract rfl rfl ?_
    try dsimp only [putL, setL, evL, getL]
    refine HL_cons rfl ?_
    refine o_assign ?_
    try dsimp only [putL, setL, evL, getL]
    refine HL_cons rfl ?_
    refine o_assign ?_
    try dsimp only [putL, setL, evL, getL]
    refine HL_nil ?_
    refine hK4 _ _ ?_
    refine HT_seq_k ?_
    intro K6 hK6
    refine HT_region ?_
    refine HL_cons rfl ?_
    refine o_move ?_
    try dsimp only [putL, setL, evL, getL]
    refine HL_cons rfl ?_
    refine o_conv rfl Try.underlying170 Try.underlying129 ?_
    try dsimp only [putL, setL, evL, getL]
    refine HL_cons rfl ?_
    refine o_move ?_
    try dsimp only [putL, setL, evL, getL]
    refine HL_cons rfl ?_
    refine o_conv rfl Try.underlying170 Try.underlying129 ?_
    try dsimp only [putL, setL, evL, getL]
    refine HL_cons rfl ?_
    refine o_assign ?_
    try dsimp only [putL, setL, evL, getL]
    refine HL_cons rfl ?_
    refine o_assign ?_
    try dsimp only [putL, setL, evL, getL]
    refine HL_nil ?_
    refine hK6 _ _ ?_
    refine HT_ret ?_
    obtain rfl := Option.some.inj (show some _ = some r from H)
    exact hQr _ _ [.int .u64 (IntKind.u64.wrap u5.1), .int .u64 (IntKind.u64.wrap u5.2)] ⟨rfl, rfl, trivial⟩ ⟨rfl, hH⟩
  · replace H := iteF hb3 H
    refine HT_false (congrArg Value.bool hb3) ?_
    refine HT_skip ?_
    refine hK2 _ _ ?_
    refine HT_seq_k ?_
    intro K7 hK7
    refine HT_region ?_
    refine HL_cons rfl ?_
    refine o_move ?_
    try dsimp only [putL, setL, evL, getL]
    refine HL_cons rfl ?_
    refine o_move ?_
    try dsimp only [putL, setL, evL, getL]
    obtain ⟨u8, hu8, H⟩ := headE H
    refine HL_cons rfl ?_
    refine o_call (args := #[.int .u64 p0, .int .u64 p1]) Try.func171 rfl rfl rfl (bits_Mul64.ok sb s no p0 p1 (Hp.own hH.bs) _ hu8) ?_
    rintro _ s8 ⟨rfl, hD⟩
    replace hH := hH.back0 hD (Up.refl _ _ _)
    clear hD
    dsimp only [addC, setC, rmC, selC, getC] at hH
    try dsimp only [putL, setL, evL, getL]
    refine HL_cons rfl ?_
    refine o_move ?_
    try dsimp only [putL, setL, evL, getL]
    refine HL_cons rfl ?_
    refine o_extract rfl rfl ?_
    try dsimp only [putL, setL, evL, getL]
    refine HL_cons rfl ?_
    refine o_extract rfl rfl ?_
    try dsimp only [putL, setL, evL, getL]
    refine HL_cons rfl ?_
    refine o_assign ?_
    try dsimp only [putL, setL, evL, getL]
    refine HL_cons rfl ?_
    refine o_assign ?_
    try dsimp only [putL, setL, evL, getL]
    refine HL_nil ?_
    refine hK7 _ _ ?_
    refine HT_seq_k ?_
    intro K9 hK9
    refine HT_region ?_
    refine HL_cons rfl ?_
    refine o_move ?_
    try dsimp only [putL, setL, evL, getL]
    refine HL_cons rfl ?_
    refine o_move ?_
    try dsimp only [putL, setL, evL, getL]
    refine HL_cons rfl ?_
    refine o_assign ?_
    try dsimp only [putL, setL, evL, getL]
    refine HL_cons rfl ?_
    refine o_assign ?_
    try dsimp only [putL, setL, evL, getL]
    refine HL_nil ?_
    refine hK9 _ _ ?_
    refine HT_ret ?_
    obtain rfl := Option.some.inj (show some _ = some r from H)
    exact hQr _ _ [.int .u64 u8.1, .int .u64 u8.2] ⟨rfl, rfl, trivial⟩ ⟨rfl, hH⟩
def slices_Repeat_int_int.l1 (x25 : List (Int)) : Nat → (List (Int)) → Int → Option (List (Int))
  | 0, _, _ => none
  | kf + 1, x59, x60 => if (decide (x60 < (x25.length : Int))) = true then ((cut? x59 x60 (x59.length : Int)).bind fun x73 => (cut? x59 0 x60).bind fun x74 => (some (cpy x59 (Int.toNat x60) x73.length x74)).bind fun x75 => slices_Repeat_int_int.l1 x25 kf x75 (IntKind.i64.wrap (x60 + ((min x74.length x73.length : Nat) : Int)))) else (some x59)
def slices_Repeat_int_int.f (p0 : List (Int)) (p1 : Int) : Option (List (Int)) := if (decide (p1 < 0)) = true then none else ((bits_Mul.f (IntKind.u64.wrap (p0.length : Int)) (IntKind.u64.wrap p1)).bind fun u9 => (if (decide (u9.1 > 0)) = true then (some true) else (some (decide (u9.2 > 9223372036854775807)))).bind fun (o : Bool) => match o with | x20 => (if x20 = true then none else ((mk? 17592186044416 0 (IntKind.i64.wrap u9.2)).bind fun x25 => (some (cpy x25 (Int.toNat 0) x25.length p0)).bind fun x27 => (slices_Repeat_int_int.l1 x25 ((((x25.length : Int)) - (((min p0.length x25.length : Nat) : Int))).toNat + 2) x27 ((min p0.length x25.length : Nat) : Int)).bind fun (o : (List (Int))) => match o with | x52 => (some x52))))
def slices_Repeat_int_int.post (sb s : St) (F0 : Fp) (r : (List (Int))) : Value → St → Prop := fun v s' => ∃ (A0 : Option Addr) (c0 : Nat), v = .slice A0 r.length c0 ∧ Hp sb s F0 s' [Ck.ol OI 3 A0 c0 r]
set_option maxRecDepth 100000 in
set_option maxHeartbeats 4000000 in
theorem slices_Repeat_int_int.ok (sb s : St) (F0 : Fp) (A0p : Option Addr) (c0p : Nat) (p0 : List (Int)) (p1 : Int) (HRp0 : Rd KI sb A0p c0p p0) (hH : Hp sb s F0 s []) (r : (List (Int))) (H : slices_Repeat_int_int.f p0 p1 = some r) : GCall Try.prog 167 #[.slice A0p p0.length c0p, .int .i64 p1] s (slices_Repeat_int_int.post sb s F0 r) := by
  refine GCall_ofk [.tmp 4] [.slice A0p p0.length c0p, .int .i64 p1, undef, undef, undef, undef, undef, undef, undef, undef, undef, undef, undef, undef, undef, undef, undef, undef, undef, undef, undef, undef, undef, undef, undef, undef, undef, undef, undef, undef, undef, undef, undef, undef, undef, undef, undef, undef, undef, undef, undef, undef, undef, undef, undef, undef, undef, undef] Try.func167 rfl rfl rfl ?_
  intro w Q hQr hQn hQp
  replace H := topE H
  unfold slices_Repeat_int_int.f at H
  refine HT_seq_k ?_
  intro K1 hK1
  refine HT_region ?_
  refine HL_cons rfl ?_
  refine o_assign ?_
  try dsimp only [putL, setL, evL, getL]
  refine HL_nil ?_
  refine hK1 _ _ ?_
  refine HT_seq_k ?_
  intro K5 hK5
  refine HT_seq_k ?_
  intro K6 hK6
  refine HT_region ?_
  refine HL_cons rfl ?_
  refine o_move ?_
  try dsimp only [putL, setL, evL, getL]
  refine HL_cons rfl ?_
  refine o_bin rfl rfl rfl ?_
  try dsimp only [putL, setL, evL, getL]
  refine HL_nil ?_
  refine hK6 _ _ ?_
  rcases Bool.eq_false_or_eq_true (decide (p1 < 0)) with hb7 | hb7
  · replace H := iteT hb7 H
    refine HT_true (congrArg Value.bool hb7) ?_
    cases H
  · replace H := iteF hb7 H
    refine HT_false (congrArg Value.bool hb7) ?_
    refine HT_skip ?_
    refine hK5 _ _ ?_
    refine HT_seq_k ?_
    intro K8 hK8
    refine HT_region ?_
    refine HL_cons rfl ?_
    refine o_move ?_
    try dsimp only [putL, setL, evL, getL]
    refine HL_cons rfl ?_
    refine o_len rfl Try.underlying22 ?_
    try dsimp only [putL, setL, evL, getL]
    refine HL_cons rfl ?_
    refine o_conv rfl Try.underlying3 Try.underlying129 ?_
    try dsimp only [putL, setL, evL, getL]
    refine HL_cons rfl ?_
    refine o_move ?_
    try dsimp only [putL, setL, evL, getL]
    refine HL_cons rfl ?_
    refine o_conv rfl Try.underlying3 Try.underlying129 ?_
    try dsimp only [putL, setL, evL, getL]
    obtain ⟨u9, hu9, H⟩ := headE H
    refine HL_cons rfl ?_
    refine o_call (args := #[.int .u64 (IntKind.u64.wrap (p0.length : Int)), .int .u64 (IntKind.u64.wrap p1)]) Try.func169 rfl rfl rfl (bits_Mul.ok sb s no (IntKind.u64.wrap (p0.length : Int)) (IntKind.u64.wrap p1) (Hp.own hH.bs) _ hu9) ?_
    rintro _ s9 ⟨rfl, hD⟩
    replace hH := hH.back0 hD (Up.refl _ _ _)
    clear hD
    dsimp only [addC, setC, rmC, selC, getC] at hH
    try dsimp only [putL, setL, evL, getL]
    refine HL_cons rfl ?_
    refine o_move ?_
    try dsimp only [putL, setL, evL, getL]
    refine HL_cons rfl ?_
    refine o_extract rfl rfl ?_
    try dsimp only [putL, setL, evL, getL]
    refine HL_cons rfl ?_
    refine o_extract rfl rfl ?_
    try dsimp only [putL, setL, evL, getL]
    refine HL_cons rfl ?_
    refine o_assign ?_
    try dsimp only [putL, setL, evL, getL]
    refine HL_cons rfl ?_
    refine o_assign ?_
    try dsimp only [putL, setL, evL, getL]
    refine HL_nil ?_
    refine hK8 _ _ ?_
    refine HT_seq_k ?_
    intro K17 hK17
    refine joinH H fun G18 hG18 H => ?_
    refine HT_joinK (fun l' s' => ∃ (x20 : Bool), G18 x20 = some r ∧ l' = [.slice A0p p0.length c0p, .int .i64 p1, undef, undef, .slice none 0 0, .int .u64 u9.1, .int .u64 u9.2, undef, undef, .int .i64 p1, .bool (decide (p1 < 0)), undef, .tuple #[.int .u64 u9.1, .int .u64 u9.2], .slice A0p p0.length c0p, .int .i64 (p0.length : Int), .int .u64 (IntKind.u64.wrap (p0.length : Int)), .int .i64 p1, .int .u64 (IntKind.u64.wrap p1), .tuple #[.int .u64 u9.1, .int .u64 u9.2], .int .u64 u9.1, .int .u64 u9.2, getL l' 21, getL l' 22, getL l' 23, getL l' 24, getL l' 25, .bool x20, undef, undef, undef, undef, undef, undef, undef, undef, undef, undef, undef, undef, undef, undef, undef, undef, undef, undef, undef, undef, undef] ∧ Hp sb s F0 s' []) ?_ ?_
    · intro K18 hK18
      refine HT_region ?_
      refine HL_cons rfl ?_
      refine o_move ?_
      try dsimp only [putL, setL, evL, getL]
      refine HL_cons rfl ?_
      refine o_bin rfl rfl rfl ?_
      try dsimp only [putL, setL, evL, getL]
      refine HL_cons rfl ?_
      refine o_move ?_
      try dsimp only [putL, setL, evL, getL]
      rcases Bool.eq_false_or_eq_true (decide (u9.1 > 0)) with hb21 | hb21
      · replace H := iteT hb21 H
        refine HL_skip ?_ ?_
        · exact wantF (j := 2) (b := false) (t := 23) (c := decide (u9.1 > 0)) rfl rfl rfl rfl hb21
        try dsimp only [putL, setL, evL, getL]
        refine HL_skip ?_ ?_
        · exact wantF (j := 2) (b := false) (t := 23) (c := decide (u9.1 > 0)) rfl rfl rfl rfl hb21
        try dsimp only [putL, setL, evL, getL]
        refine HL_cons rfl ?_
        refine o_pickT rfl hb21 ?_
        try dsimp only [putL, setL, evL, getL]
        refine HL_nil ?_
        exact hK18 _ _ ⟨true, H, rfl, hH⟩
      · replace H := iteF hb21 H
        refine HL_want ?_ ?_
        · exact wantT (j := 2) (b := false) (t := 23) (c := decide (u9.1 > 0)) rfl rfl rfl rfl hb21
        refine o_move ?_
        try dsimp only [putL, setL, evL, getL]
        refine HL_want ?_ ?_
        · exact wantT (j := 2) (b := false) (t := 23) (c := decide (u9.1 > 0)) rfl rfl rfl rfl hb21
        refine o_bin rfl rfl rfl ?_
        try dsimp only [putL, setL, evL, getL]
        refine HL_cons rfl ?_
        refine o_pickF rfl hb21 ?_
        try dsimp only [putL, setL, evL, getL]
        refine HL_nil ?_
        exact hK18 _ _ ⟨decide (u9.2 > 9223372036854775807), H, rfl, hH⟩
    · rintro l' s22 ⟨x20, H, hl, hH⟩
      generalize getL l' 21 = j21, getL l' 22 = j22, getL l' 23 = j23, getL l' 24 = j24, getL l' 25 = j25 at hl
      subst hl
      replace H := hG18 _ H
      try dsimp only at H
      rcases Bool.eq_false_or_eq_true x20 with hb23 | hb23
      · replace H := iteT hb23 H
        refine HT_true (congrArg Value.bool hb23) ?_
        cases H
      · replace H := iteF hb23 H
        refine HT_false (congrArg Value.bool hb23) ?_
        refine HT_skip ?_
        refine hK17 _ _ ?_
        refine HT_seq_k ?_
        intro K24 hK24
        refine HT_region ?_
        refine HL_cons rfl ?_
        refine o_move ?_
        try dsimp only [putL, setL, evL, getL]
        refine HL_cons rfl ?_
        refine o_conv rfl Try.underlying129 Try.underlying3 ?_
        try dsimp only [putL, setL, evL, getL]
        obtain ⟨x25, hx25, H⟩ := headE H
        refine HL_cons rfl ?_
        refine o_makeH (K := KI) (O := OI) (x0 := 0) hH rfl Try.underlying22 tI3 rfl (by decide) (by decide) (by decide) (Own0.fl fun _ => rfl) hx25 ?_
        intro A25 c25 s25 hH' hG
        replace hH : Hp sb s F0 s25 [Ck.ol OI 3 A25 c25 x25] := hH'
        clear hH' hG
        try dsimp only [putL, setL, evL, getL]
        refine HL_cons rfl ?_
        refine o_assign ?_
        try dsimp only [putL, setL, evL, getL]
        refine HL_nil ?_
        refine hK24 _ _ ?_
        refine HT_seq_k ?_
        intro K26 hK26
        refine HT_region ?_
        refine HL_cons rfl ?_
        refine o_move ?_
        try dsimp only [putL, setL, evL, getL]
        refine HL_cons rfl ?_
        refine o_move ?_
        try dsimp only [putL, setL, evL, getL]
        obtain ⟨x27, hx27, H⟩ := headE H
        refine HL_cons rfl ?_
        refine o_copyF (K := KI) (lo := Int.toNat 0) (n := x25.length) (ys := p0) hH 0 rfl rfl rfl rfl Try.underlying22 tI3 (.inl ⟨rfl, rfl⟩) (Nat.le_of_eq (Nat.zero_add _)) (HRp0.mono hH.bs.mono) hx27 ?_
        intro s27 hH'
        have hl27 := cpy_len (Nat.le_of_eq (Nat.zero_add _)) hx27
        replace hH : Hp sb s F0 s27 [Ck.ol OI 3 A25 c25 x27] := hH'
        clear hH'
        try dsimp only [putL, setL, evL, getL]
        refine HL_cons rfl ?_
        refine o_assign ?_
        try dsimp only [putL, setL, evL, getL]
        refine HL_nil ?_
        refine hK26 _ _ ?_
        refine joinH H fun G28 hG28 H => ?_
        refine HT_joinK (fun l' s' => ∃ (x52 : List (Int)), G28 x52 = some r ∧ l' = [.slice A0p p0.length c0p, .int .i64 p1, undef, undef, .slice none 0 0, .int .u64 u9.1, .int .u64 u9.2, .slice A25 x25.length c25, getL l' 8, .int .i64 p1, .bool (decide (p1 < 0)), undef, .tuple #[.int .u64 u9.1, .int .u64 u9.2], .slice A0p p0.length c0p, .int .i64 (p0.length : Int), .int .u64 (IntKind.u64.wrap (p0.length : Int)), .int .i64 p1, .int .u64 (IntKind.u64.wrap p1), .tuple #[.int .u64 u9.1, .int .u64 u9.2], .int .u64 u9.1, .int .u64 u9.2, j21, j22, j23, j24, j25, .bool x20, undef, .int .u64 u9.2, .int .i64 (IntKind.i64.wrap u9.2), .slice A25 x25.length c25, .slice A25 x25.length c25, .slice A0p p0.length c0p, .int .i64 ((min p0.length x25.length : Nat) : Int), getL l' 34, getL l' 35, getL l' 36, getL l' 37, getL l' 38, getL l' 39, getL l' 40, getL l' 41, getL l' 42, getL l' 43, getL l' 44, getL l' 45, getL l' 46, undef] ∧ Hp sb s F0 s' [Ck.ol OI 3 A25 c25 x52] ∧ x52.length = x25.length) ?_ ?_
        · intro K28 hK28
          refine HT_block ?_
          refine HT_loopK (fun kf l' s' => ∃ (x59 : List (Int)) (x60 : Int), (slices_Repeat_int_int.l1 x25 kf x59 x60).bind G28 = some r ∧ l' = [.slice A0p p0.length c0p, .int .i64 p1, undef, undef, .slice none 0 0, .int .u64 u9.1, .int .u64 u9.2, .slice A25 x25.length c25, .int .i64 x60, .int .i64 p1, .bool (decide (p1 < 0)), undef, .tuple #[.int .u64 u9.1, .int .u64 u9.2], .slice A0p p0.length c0p, .int .i64 (p0.length : Int), .int .u64 (IntKind.u64.wrap (p0.length : Int)), .int .i64 p1, .int .u64 (IntKind.u64.wrap p1), .tuple #[.int .u64 u9.1, .int .u64 u9.2], .int .u64 u9.1, .int .u64 u9.2, j21, j22, j23, j24, j25, .bool x20, undef, .int .u64 u9.2, .int .i64 (IntKind.i64.wrap u9.2), .slice A25 x25.length c25, .slice A25 x25.length c25, .slice A0p p0.length c0p, .int .i64 ((min p0.length x25.length : Nat) : Int), getL l' 34, getL l' 35, getL l' 36, getL l' 37, getL l' 38, getL l' 39, getL l' 40, getL l' 41, getL l' 42, getL l' 43, getL l' 44, getL l' 45, getL l' 46, undef] ∧ Hp sb s F0 s' [Ck.ol OI 3 A25 c25 x59] ∧ x59.length = x25.length) ((((x25.length : Int)) - (((min p0.length x25.length : Nat) : Int))).toNat + 2) ⟨x27, ((min p0.length x25.length : Nat) : Int), H, rfl, hH, hl27⟩ ?_
          rintro kf l' s69 ⟨x59, x60, H, hl, hH, hl59⟩ K69 hK69
          generalize getL l' 34 = j34, getL l' 35 = j35, getL l' 36 = j36, getL l' 37 = j37, getL l' 38 = j38, getL l' 39 = j39, getL l' 40 = j40, getL l' 41 = j41, getL l' 42 = j42, getL l' 43 = j43, getL l' 44 = j44, getL l' 45 = j45, getL l' 46 = j46 at hl
          subst hl
          cases kf with
          | zero => simp [slices_Repeat_int_int.l1] at H
          | succ kf =>
            rw [slices_Repeat_int_int.l1] at H
            refine HT_seq_k ?_
            intro K70 hK70
            refine HT_seq_k ?_
            intro K71 hK71
            refine HT_region ?_
            refine HL_cons rfl ?_
            refine o_move ?_
            try dsimp only [putL, setL, evL, getL]
            refine HL_cons rfl ?_
            refine o_move ?_
            try dsimp only [putL, setL, evL, getL]
            refine HL_cons rfl ?_
            refine o_len rfl Try.underlying22 ?_
            try dsimp only [putL, setL, evL, getL]
            refine HL_cons rfl ?_
            refine o_bin rfl rfl rfl ?_
            try dsimp only [putL, setL, evL, getL]
            refine HL_nil ?_
            refine hK71 _ _ ?_
            rcases Bool.eq_false_or_eq_true (decide (x60 < (x25.length : Int))) with hb72 | hb72
            · replace H := iteT hb72 H
              refine HT_true (congrArg Value.bool hb72) ?_
              refine HT_skip ?_
              refine hK70 _ _ ?_
              refine HT_block ?_
              refine HK_draw (fun s' => Gro s69 s') 7 hMix ?_
              have hR := Gro.refl s69
              have hH0 := hH
              refine HK_readP 0 (v := .int .i64 x60) rfl (by kernel_rfl) (fun c l s h => hQp c l s h) rfl (fun s' K hK => ?_) rfl rfl (fun _ => hR) ?_
              · refine o_move ?_
                exact hK
              try dsimp only [putL, setL, evL, getL]
              refine HK_readP 1 (v := .slice A25 x25.length c25) rfl (by kernel_rfl) (fun c l s h => hQp c l s h) rfl (fun s' K hK => ?_) rfl rfl (fun _ => hR) ?_
              · refine o_move ?_
                exact hK
              try dsimp only [putL, setL, evL, getL]
              refine HK_readP 2 (v := .int .i64 x60) rfl (by kernel_rfl) (fun c l s h => hQp c l s h) rfl (fun s' K hK => ?_) rfl rfl (fun _ => hR) ?_
              · refine o_move ?_
                exact hK
              try dsimp only [putL, setL, evL, getL]
              obtain ⟨x73, hx73, H⟩ := headE H
              refine HK_readP 3 (v := .slice (cutA A25 c25 (Int.toNat x60) (Kd.sz KI)) x73.length (c25 - Int.toNat x60)) rfl (by kernel_rfl) (fun c l s h => hQp c l s h) rfl (fun s' K hK => ?_) rfl rfl (fun _ => hR) ?_
              · refine o_cutA (xs := x59) (kl := .i64) (kh := .i64) (L := x60) (H := (x59.length : Int)) (sliceLen hl59) rfl rfl Try.underlying22 tI3 (hH.rd 0 rfl).1 hx73 ?_
                exact hK
              have D73 := @Der.cut _ _ OI 3 A25 c25 _ _ _ _ hx73
              try dsimp only [putL, setL, evL, getL]
              refine HK_readP 4 (v := .slice A25 x25.length c25) rfl (by kernel_rfl) (fun c l s h => hQp c l s h) rfl (fun s' K hK => ?_) rfl rfl (fun _ => hR) ?_
              · refine o_move ?_
                exact hK
              try dsimp only [putL, setL, evL, getL]
              refine HK_readP 5 (v := .int .i64 x60) rfl (by kernel_rfl) (fun c l s h => hQp c l s h) rfl (fun s' K hK => ?_) rfl rfl (fun _ => hR) ?_
              · refine o_move ?_
                exact hK
              try dsimp only [putL, setL, evL, getL]
              obtain ⟨x74, hx74, H⟩ := headE H
              refine HK_readP 6 (v := .slice (cutA A25 c25 (Int.toNat 0) (Kd.sz KI)) x74.length (c25 - Int.toNat 0)) rfl (by kernel_rfl) (fun c l s h => hQp c l s h) rfl (fun s' K hK => ?_) rfl rfl (fun _ => hR) ?_
              · refine o_cutA (xs := x59) (kl := .i64) (kh := .i64) (L := 0) (H := x60) (sliceLen hl59) rfl rfl Try.underlying22 tI3 (hH.rd 0 rfl).1 hx74 ?_
                exact hK
              have D74 := @Der.cut _ _ OI 3 A25 c25 _ _ _ _ hx74
              try dsimp only [putL, setL, evL, getL]
              obtain ⟨x75, hx75, H⟩ := headE H
              refine HK_one 7 (by kernel_rfl) rfl (fun _ => hR) rfl ?_
              refine o_copyF (K := KI) (lo := Int.toNat x60) (n := x73.length) (ys := x74) hH 0 rfl rfl rfl rfl Try.underlying22 tI3 (.inr rfl) (cut?_room hx73) (D74 _ _ hH.bs (hH.ckP 0)) hx75 ?_
              intro s75 hH'
              have hl75 := (cpy_len (cut?_room hx73) hx75).trans hl59
              replace hH : Hp sb s F0 s75 [Ck.ol OI 3 A25 c25 x75] := hH'
              clear hH'
              try dsimp only [putL, setL, evL, getL]
              refine HK_readP 8 (v := .int .i64 (IntKind.i64.wrap (x60 + ((min x74.length x73.length : Nat) : Int)))) rfl (by kernel_rfl) (fun c l s h => hQp c l s h) rfl (fun s' K hK => ?_) rfl rfl (fun h => by cases h) ?_
              · refine o_bin rfl rfl rfl ?_
                exact hK
              try dsimp only [putL, setL, evL, getL]
              refine HK_one 9 (by kernel_rfl) rfl (fun h => by cases h) rfl ?_
              refine o_assign ?_
              try dsimp only [putL, setL, evL, getL]
              refine HK_done' (by kernel_rfl) (by kernel_rfl) ?_
              exact hK69 _ _ ⟨kf, Nat.lt_succ_self kf, x75, IntKind.i64.wrap (x60 + ((min x74.length x73.length : Nat) : Int)), H, rfl, hH, hl75⟩
            · replace H := iteF hb72 H
              refine HT_false (congrArg Value.bool hb72) ?_
              refine HT_exit ?_
              exact hK28 _ _ ⟨x59, H, rfl, hH, hl59⟩
        · rintro l' s76 ⟨x52, H, hl, hH, hl52⟩
          generalize getL l' 8 = j8, getL l' 34 = j34, getL l' 35 = j35, getL l' 36 = j36, getL l' 37 = j37, getL l' 38 = j38, getL l' 39 = j39, getL l' 40 = j40, getL l' 41 = j41, getL l' 42 = j42, getL l' 43 = j43, getL l' 44 = j44, getL l' 45 = j45, getL l' 46 = j46 at hl
          subst hl
          replace H := hG28 _ H
          try dsimp only at H
          refine HT_seq_k ?_
          intro K77 hK77
          refine HT_region ?_
          refine HL_cons rfl ?_
          refine o_move ?_
          try dsimp only [putL, setL, evL, getL]
          refine HL_cons rfl ?_
          refine o_assign ?_
          try dsimp only [putL, setL, evL, getL]
          refine HL_nil ?_
          refine hK77 _ _ ?_
          refine HT_ret ?_
          obtain rfl := Option.some.inj (show some _ = some r from H)
          exact hQr _ _ [.slice A25 x25.length c25] ⟨rfl, trivial⟩ ⟨A25, c25, (by first | (rw [hl52]; first | done | rfl) | rfl), hH⟩
def slices_Grow_int_int_nil.f (p1 : Int) : Option (List (Int)) := if (decide (p1 < 0)) = true then none else ((if (decide ((IntKind.i64.wrap (p1 - (IntKind.i64.wrap (0 - 0)))) > 0)) = true then ((cut? ([] : List (Int)) 0 0).bind fun x19 => (mk? 17592186044416 0 (IntKind.i64.wrap (p1 - (IntKind.i64.wrap (0 - 0))))).bind fun x20 => (cut? x20 0 0).bind fun x21 => some x21) else (some [])).bind fun (o : (List (Int))) => match o with | x15 => (some x15))
def slices_Grow_int_int_nil.post (sb s : St) (F0 : Fp) (r : (List (Int))) : Value → St → Prop := fun v s' => ∃ (A0 : Option Addr) (c0 : Nat), v = .slice A0 r.length c0 ∧ Hp sb s F0 s' [Ck.ol OI 3 A0 c0 r]
set_option maxRecDepth 100000 in
set_option maxHeartbeats 4000000 in
theorem slices_Grow_int_int_nil.ok (sb s : St) (F0 : Fp) (p1 : Int) (hH : Hp sb s F0 s []) (r : (List (Int))) (H : slices_Grow_int_int_nil.f p1 = some r) : GCall Try.prog 166 #[.slice none 0 0, .int .i64 p1] s (slices_Grow_int_int_nil.post sb s F0 r) := by
  refine GCall_ofk [.tmp 4] [.slice none 0 0, .int .i64 p1, undef, undef, undef, undef, undef, undef, undef, undef, undef, undef, undef, undef, undef, undef, undef, undef, undef, undef, undef, undef, undef, undef, undef, undef, undef] Try.func166 rfl rfl rfl ?_
  intro w Q hQr hQn hQp
  replace H := topE H
  unfold slices_Grow_int_int_nil.f at H
  refine HT_seq_k ?_
  intro K1 hK1
  refine HT_region ?_
  refine HL_cons rfl ?_
  refine o_assign ?_
  try dsimp only [putL, setL, evL, getL]
  refine HL_nil ?_
  refine hK1 _ _ ?_
  refine HT_seq_k ?_
  intro K5 hK5
  refine HT_seq_k ?_
  intro K6 hK6
  refine HT_region ?_
  refine HL_cons rfl ?_
  refine o_move ?_
  try dsimp only [putL, setL, evL, getL]
  refine HL_cons rfl ?_
  refine o_bin rfl rfl rfl ?_
  try dsimp only [putL, setL, evL, getL]
  refine HL_nil ?_
  refine hK6 _ _ ?_
  rcases Bool.eq_false_or_eq_true (decide (p1 < 0)) with hb7 | hb7
  · replace H := iteT hb7 H
    refine HT_true (congrArg Value.bool hb7) ?_
    cases H
  · replace H := iteF hb7 H
    refine HT_false (congrArg Value.bool hb7) ?_
    refine HT_skip ?_
    refine hK5 _ _ ?_
    refine joinH H fun G8 hG8 H => ?_
    refine HT_joinK (fun l' s' => ∃ (x15 : List (Int)) (A15 : Option Addr) (c15 : Nat), G8 x15 = some r ∧ l' = [.slice A15 x15.length c15, getL l' 1, undef, undef, .slice none 0 0, .int .i64 p1, .bool (decide (p1 < 0)), undef, getL l' 8, getL l' 9, getL l' 10, getL l' 11, getL l' 12, getL l' 13, getL l' 14, getL l' 15, getL l' 16, getL l' 17, getL l' 18, getL l' 19, getL l' 20, getL l' 21, getL l' 22, getL l' 23, getL l' 24, getL l' 25, undef] ∧ Hp sb s F0 s' [Ck.ol OI 3 A15 c15 x15]) ?_ ?_
    · intro K8 hK8
      refine HT_seq_k ?_
      intro K16 hK16
      refine HT_region ?_
      refine HL_cons rfl ?_
      refine o_move ?_
      try dsimp only [putL, setL, evL, getL]
      refine HL_cons rfl ?_
      refine o_move ?_
      try dsimp only [putL, setL, evL, getL]
      refine HL_cons rfl ?_
      refine o_cap rfl Try.underlying22 ?_
      try dsimp only [putL, setL, evL, getL]
      refine HL_cons rfl ?_
      refine o_move ?_
      try dsimp only [putL, setL, evL, getL]
      refine HL_cons rfl ?_
      refine o_len rfl Try.underlying22 ?_
      try dsimp only [putL, setL, evL, getL]
      refine HL_cons rfl ?_
      refine o_bin rfl rfl rfl ?_
      try dsimp only [putL, setL, evL, getL]
      refine HL_cons rfl ?_
      refine o_bin rfl rfl rfl ?_
      try dsimp only [putL, setL, evL, getL]
      refine HL_cons rfl ?_
      refine o_assign ?_
      try dsimp only [putL, setL, evL, getL]
      refine HL_nil ?_
      refine hK16 _ _ ?_
      refine HT_seq_k ?_
      intro K17 hK17
      refine HT_region ?_
      refine HL_cons rfl ?_
      refine o_move ?_
      try dsimp only [putL, setL, evL, getL]
      refine HL_cons rfl ?_
      refine o_bin rfl rfl rfl ?_
      try dsimp only [putL, setL, evL, getL]
      refine HL_nil ?_
      refine hK17 _ _ ?_
      rcases Bool.eq_false_or_eq_true (decide ((IntKind.i64.wrap (p1 - (IntKind.i64.wrap (0 - 0)))) > 0)) with hb18 | hb18
      · replace H := iteT hb18 H
        refine HT_true (congrArg Value.bool hb18) ?_
        refine HT_region ?_
        refine HL_cons rfl ?_
        refine o_move ?_
        try dsimp only [putL, setL, evL, getL]
        refine HL_cons rfl ?_
        refine o_move ?_
        try dsimp only [putL, setL, evL, getL]
        refine HL_cons rfl ?_
        refine o_cap rfl Try.underlying22 ?_
        try dsimp only [putL, setL, evL, getL]
        obtain ⟨x19, hx19, H⟩ := headE H
        obtain rfl := cut?_nil hx19
        refine HL_cons rfl ?_
        refine o_cutA (xs := ([] : List (Int))) (kl := .i64) (kh := .i64) (L := 0) (H := 0) rfl rfl rfl Try.underlying22 tI3 (Nat.le_refl 0) (ys := []) hx19 ?_
        try dsimp only [putL, setL, evL, getL]
        refine HL_cons rfl ?_
        refine o_move ?_
        try dsimp only [putL, setL, evL, getL]
        obtain ⟨x20, hx20, H⟩ := headE H
        refine HL_cons rfl ?_
        refine o_appM (K := KI) (O := OI) (x0 := 0) hH rfl rfl Try.underlying22 Try.underlying3 tI3 rfl (by decide) (by decide) (by decide) (Own0.fl fun _ => rfl) hx20 ?_
        intro A20 c20 s20 hH' hG
        replace hH : Hp sb s F0 s20 [Ck.ol OI 3 A20 c20 x20] := hH'
        clear hH' hG
        try dsimp only [putL, setL, evL, getL]
        refine HL_cons rfl ?_
        refine o_move ?_
        try dsimp only [putL, setL, evL, getL]
        refine HL_cons rfl ?_
        refine o_len rfl Try.underlying22 ?_
        try dsimp only [putL, setL, evL, getL]
        obtain ⟨x21, hx21, H⟩ := headE H
        refine HL_cons rfl ?_
        refine o_cutA (xs := x20) (kl := .i64) (kh := .i64) (L := 0) (H := 0) rfl rfl rfl Try.underlying22 tI3 (hH.rd 0 rfl).1 hx21 ?_
        have D21 := @Der.cut _ _ OI 3 A20 c20 _ _ _ _ hx21
        try dsimp only [putL, setL, evL, getL]
        refine HL_cons rfl ?_
        refine o_assign ?_
        try dsimp only [putL, setL, evL, getL]
        refine HL_nil ?_
        exact hK8 _ _ ⟨x21, (cutA A20 c20 (Int.toNat 0) (Kd.sz KI)), c20 - Int.toNat 0, H, rfl, (hH.cut 0 rfl rfl hx21)⟩
      · replace H := iteF hb18 H
        refine HT_false (congrArg Value.bool hb18) ?_
        refine HT_skip ?_
        exact hK8 _ _ ⟨[], none, 0, H, rfl, (hH.nil (K := KI) OI 3)⟩
    · rintro l' s22 ⟨x15, A15, c15, H, hl, hH⟩
      generalize getL l' 1 = j1, getL l' 8 = j8, getL l' 9 = j9, getL l' 10 = j10, getL l' 11 = j11, getL l' 12 = j12, getL l' 13 = j13, getL l' 14 = j14, getL l' 15 = j15, getL l' 16 = j16, getL l' 17 = j17, getL l' 18 = j18, getL l' 19 = j19, getL l' 20 = j20, getL l' 21 = j21, getL l' 22 = j22, getL l' 23 = j23, getL l' 24 = j24, getL l' 25 = j25 at hl
      subst hl
      replace H := hG8 _ H
      try dsimp only at H
      refine HT_seq_k ?_
      intro K23 hK23
      refine HT_region ?_
      refine HL_cons rfl ?_
      refine o_move ?_
      try dsimp only [putL, setL, evL, getL]
      refine HL_cons rfl ?_
      refine o_assign ?_
      try dsimp only [putL, setL, evL, getL]
      refine HL_nil ?_
      refine hK23 _ _ ?_
      refine HT_ret ?_
      obtain rfl := Option.some.inj (show some _ = some r from H)
      exact hQr _ _ [.slice A15 x15.length c15] ⟨rfl, trivial⟩ ⟨A15, c15, rfl, hH⟩
def slices_Concat_int_int.l1 (p0 : List (List (Int))) : Nat → Int → Int → Option Int
  | 0, _, _ => none
  | kf + 1, x80, x81 => if (decide (x81 < (p0.length : Int))) = true then ((rd? p0 x81).bind fun u114 => if (decide ((IntKind.i64.wrap (x80 + (u114.length : Int))) < 0)) = true then none else (slices_Concat_int_int.l1 p0 kf (IntKind.i64.wrap (x80 + (u114.length : Int))) (IntKind.i64.wrap (x81 + 1)))) else (some x80)
def slices_Concat_int_int.l2 (p0 : List (List (Int))) : Nat → (List (Int)) → Int → Option (List (Int))
  | 0, _, _ => none
  | kf + 1, x164, x165 => if (decide (x165 < (p0.length : Int))) = true then ((rd? p0 x165).bind fun u182 => (app? 17592186044416 x164 u182).bind fun x184 => slices_Concat_int_int.l2 p0 kf x184 (IntKind.i64.wrap (x165 + 1))) else (some x164)
def slices_Concat_int_int.f (p0 : List (List (Int))) : Option (List (Int)) := (slices_Concat_int_int.l1 p0 ((((p0.length : Int)) - (0)).toNat + 2) 0 0).bind fun (o : Int) => match o with | x62 => ((slices_Grow_int_int_nil.f x62).bind fun u121 => (slices_Concat_int_int.l2 p0 ((((p0.length : Int)) - (0)).toNat + 2) u121 0).bind fun (o : (List (Int))) => match o with | x155 => (some x155))
def slices_Concat_int_int.post (sb s : St) (F0 : Fp) (r : (List (Int))) : Value → St → Prop := fun v s' => ∃ (A0 : Option Addr) (c0 : Nat), v = .slice A0 r.length c0 ∧ Hp sb s F0 s' [Ck.ol OI 3 A0 c0 r]
set_option maxRecDepth 100000 in
set_option maxHeartbeats 4000000 in
theorem slices_Concat_int_int.ok (sb s : St) (F0 : Fp) (A0p : Option Addr) (c0p : Nat) (p0 : List (List (Int))) (HRp0 : Rd (Kd.sl KI) sb A0p c0p p0) (hH : Hp sb s F0 s []) (r : (List (Int))) (H : slices_Concat_int_int.f p0 = some r) : GCall Try.prog 152 #[.slice A0p p0.length c0p] s (slices_Concat_int_int.post sb s F0 r) := by
  refine GCall_ofk [.tmp 2] [.slice A0p p0.length c0p, undef, undef, undef, undef, undef, undef, undef, undef, undef, undef, undef, undef, undef, undef, undef, undef, undef, undef, undef, undef, undef, undef, undef, undef, undef, undef, undef, undef, undef, undef, undef, undef, undef, undef, undef] Try.func152 rfl rfl rfl ?_
  intro w Q hQr hQn hQp
  replace H := topE H
  unfold slices_Concat_int_int.f at H
  refine HT_seq_k ?_
  intro K1 hK1
  refine HT_region ?_
  refine HL_cons rfl ?_
  refine o_assign ?_
  try dsimp only [putL, setL, evL, getL]
  refine HL_nil ?_
  refine hK1 _ _ ?_
  refine HT_seq_k ?_
  intro K2 hK2
  refine HT_region ?_
  refine HL_cons rfl ?_
  refine o_assign ?_
  try dsimp only [putL, setL, evL, getL]
  refine HL_nil ?_
  refine hK2 _ _ ?_
  refine HT_seq_k ?_
  intro K3 hK3
  refine HT_seq_k ?_
  intro K4 hK4
  refine HT_region ?_
  refine HL_cons rfl ?_
  refine o_move ?_
  try dsimp only [putL, setL, evL, getL]
  refine HL_cons rfl ?_
  refine o_len rfl Try.underlying148 ?_
  try dsimp only [putL, setL, evL, getL]
  refine HL_cons rfl ?_
  refine o_move ?_
  try dsimp only [putL, setL, evL, getL]
  refine HL_nil ?_
  refine hK4 _ _ ?_
  refine joinH H fun G5 hG5 H => ?_
  refine HT_toK (fun l' s' => ∃ (x62 : Int), G5 x62 = some r ∧ l' = [.slice A0p p0.length c0p, undef, .slice none 0 0, .int .i64 x62, undef, getL l' 5, undef, undef, undef, .slice A0p p0.length c0p, .int .i64 (p0.length : Int), getL l' 11, getL l' 12, getL l' 13, getL l' 14, getL l' 15, getL l' 16, getL l' 17, getL l' 18, getL l' 19, getL l' 20, getL l' 21, getL l' 22, undef, undef, undef, undef, undef, undef, undef, undef, undef, undef, undef, undef, undef] ∧ Hp sb s F0 s' []) ?_ ?_
  · intro K5 hK5
    refine HT_block ?_
    refine HT_loopK (fun kf l' s' => ∃ (x80 : Int) (x81 : Int), (slices_Concat_int_int.l1 p0 kf x80 x81).bind G5 = some r ∧ l' = [.slice A0p p0.length c0p, undef, .slice none 0 0, .int .i64 x80, undef, getL l' 5, undef, undef, undef, .slice A0p p0.length c0p, .int .i64 (p0.length : Int), .int .i64 x81, getL l' 12, getL l' 13, getL l' 14, getL l' 15, getL l' 16, getL l' 17, getL l' 18, getL l' 19, getL l' 20, getL l' 21, getL l' 22, undef, undef, undef, undef, undef, undef, undef, undef, undef, undef, undef, undef, undef] ∧ Hp sb s F0 s' []) ((((p0.length : Int)) - (0)).toNat + 2) ⟨0, 0, H, rfl, hH⟩ ?_
    rintro kf l' s101 ⟨x80, x81, H, hl, hH⟩ K101 hK101
    generalize getL l' 5 = j5, getL l' 12 = j12, getL l' 13 = j13, getL l' 14 = j14, getL l' 15 = j15, getL l' 16 = j16, getL l' 17 = j17, getL l' 18 = j18, getL l' 19 = j19, getL l' 20 = j20, getL l' 21 = j21, getL l' 22 = j22 at hl
    subst hl
    cases kf with
    | zero => simp [slices_Concat_int_int.l1] at H
    | succ kf =>
      rw [slices_Concat_int_int.l1] at H
      refine HT_seq_k ?_
      intro K102 hK102
      refine HT_region ?_
      refine HL_cons rfl ?_
      refine o_bin rfl rfl rfl ?_
      try dsimp only [putL, setL, evL, getL]
      refine HL_nil ?_
      refine hK102 _ _ ?_
      refine HT_seq_k ?_
      intro K103 hK103
      rcases Bool.eq_false_or_eq_true (decide (x81 < (p0.length : Int))) with hb104 | hb104
      · replace H := iteT hb104 H
        refine HT_true (congrArg Value.bool hb104) ?_
        refine HT_skip ?_
        refine hK103 _ _ ?_
        refine HT_seq_k ?_
        intro K112 hK112
        refine HT_block ?_
        refine HT_seq_k ?_
        intro K113 hK113
        refine HT_region ?_
        obtain ⟨u114, hu114, H⟩ := headE H
        obtain ⟨b114, o114, cs114, hr114, hh114, hel114⟩ := Rd.elb HRp0 hu114
        obtain ⟨A115, c115, rfl, D115⟩ := hr114
        refine HL_cons rfl ?_
        refine hel114 s101 rfl rfl Try.underlying148 tI22 ?_
        try dsimp only [putL, setL, evL, getL]
        refine HL_cons rfl ?_
        refine o_load' rfl Try.underlying22 rfl ((hh114 hH.bs.mono) 0 _ rfl) ?_
        try dsimp only [putL, setL, evL, getL]
        refine HL_cons rfl ?_
        refine o_assign ?_
        try dsimp only [putL, setL, evL, getL]
        refine HL_nil ?_
        refine hK113 _ _ ?_
        refine HT_seq_k ?_
        intro K116 hK116
        refine HT_region ?_
        refine HL_cons rfl ?_
        refine o_move ?_
        try dsimp only [putL, setL, evL, getL]
        refine HL_cons rfl ?_
        refine o_move ?_
        try dsimp only [putL, setL, evL, getL]
        refine HL_cons rfl ?_
        refine o_len rfl Try.underlying22 ?_
        try dsimp only [putL, setL, evL, getL]
        refine HL_cons rfl ?_
        refine o_bin rfl rfl rfl ?_
        try dsimp only [putL, setL, evL, getL]
        refine HL_cons rfl ?_
        refine o_assign ?_
        try dsimp only [putL, setL, evL, getL]
        refine HL_nil ?_
        refine hK116 _ _ ?_
        refine HT_seq_k ?_
        intro K117 hK117
        refine HT_region ?_
        refine HL_cons rfl ?_
        refine o_move ?_
        try dsimp only [putL, setL, evL, getL]
        refine HL_cons rfl ?_
        refine o_bin rfl rfl rfl ?_
        try dsimp only [putL, setL, evL, getL]
        refine HL_nil ?_
        refine hK117 _ _ ?_
        rcases Bool.eq_false_or_eq_true (decide ((IntKind.i64.wrap (x80 + (u114.length : Int))) < 0)) with hb118 | hb118
        · replace H := iteT hb118 H
          refine HT_true (congrArg Value.bool hb118) ?_
          cases H
        · replace H := iteF hb118 H
          refine HT_false (congrArg Value.bool hb118) ?_
          refine HT_skip ?_
          refine hK112 _ _ ?_
          refine HT_region ?_
          refine HL_cons rfl ?_
          refine o_bin rfl rfl rfl ?_
          try dsimp only [putL, setL, evL, getL]
          refine HL_cons rfl ?_
          refine o_move ?_
          try dsimp only [putL, setL, evL, getL]
          refine HL_nil ?_
          exact hK101 _ _ ⟨kf, Nat.lt_succ_self kf, IntKind.i64.wrap (x80 + (u114.length : Int)), IntKind.i64.wrap (x81 + 1), H, rfl, hH⟩
      · replace H := iteF hb104 H
        refine HT_false (congrArg Value.bool hb104) ?_
        refine HT_exit ?_
        exact hK5 _ _ ⟨x80, H, rfl, hH⟩
  · rintro l' s119 ⟨x62, H, hl, hH⟩
    generalize getL l' 5 = j5, getL l' 11 = j11, getL l' 12 = j12, getL l' 13 = j13, getL l' 14 = j14, getL l' 15 = j15, getL l' 16 = j16, getL l' 17 = j17, getL l' 18 = j18, getL l' 19 = j19, getL l' 20 = j20, getL l' 21 = j21, getL l' 22 = j22 at hl
    subst hl
    replace H := hG5 _ H
    try dsimp only at H
    refine hK3 _ _ ?_
    refine HT_seq_k ?_
    intro K120 hK120
    refine HT_region ?_
    refine HL_cons rfl ?_
    refine o_move ?_
    try dsimp only [putL, setL, evL, getL]
    obtain ⟨u121, hu121, H⟩ := headE H
    refine HL_cons rfl ?_
    refine o_call (args := #[.slice none 0 0, .int .i64 x62]) Try.func166 rfl rfl rfl (slices_Grow_int_int_nil.ok sb s119 no x62 (Hp.own hH.bs) _ hu121) ?_
    rintro _ s121 ⟨A122, c122, rfl, hD⟩
    replace hH := hH.back0 hD (Up.refl _ _ _)
    clear hD
    dsimp only [addC, setC, rmC, selC, getC] at hH
    try dsimp only [putL, setL, evL, getL]
    refine HL_cons rfl ?_
    refine o_assign ?_
    try dsimp only [putL, setL, evL, getL]
    refine HL_nil ?_
    refine hK120 _ _ ?_
    refine HT_seq_k ?_
    intro K123 hK123
    refine HT_seq_k ?_
    intro K124 hK124
    refine HT_region ?_
    refine HL_cons rfl ?_
    refine o_move ?_
    try dsimp only [putL, setL, evL, getL]
    refine HL_cons rfl ?_
    refine o_len rfl Try.underlying148 ?_
    try dsimp only [putL, setL, evL, getL]
    refine HL_cons rfl ?_
    refine o_move ?_
    try dsimp only [putL, setL, evL, getL]
    refine HL_nil ?_
    refine hK124 _ _ ?_
    refine joinH H fun G125 hG125 H => ?_
    refine HT_toK (fun l' s' => ∃ (x155 : List (Int)) (A155 : Option Addr) (c155 : Nat), G125 x155 = some r ∧ l' = [.slice A0p p0.length c0p, undef, .slice none 0 0, .int .i64 x62, undef, j5, .slice A155 x155.length c155, undef, getL l' 8, .slice A0p p0.length c0p, .int .i64 (p0.length : Int), j11, j12, j13, j14, j15, j16, j17, j18, j19, j20, j21, j22, .int .i64 x62, .slice A122 u121.length c122, .slice A0p p0.length c0p, .int .i64 (p0.length : Int), getL l' 27, getL l' 28, getL l' 29, getL l' 30, getL l' 31, getL l' 32, getL l' 33, getL l' 34, undef] ∧ Hp sb s F0 s' [Ck.ol OI 3 A155 c155 x155]) ?_ ?_
    · intro K125 hK125
      refine HT_block ?_
      refine HT_loopK (fun kf l' s' => ∃ (x164 : List (Int)) (A164 : Option Addr) (c164 : Nat) (x165 : Int), (slices_Concat_int_int.l2 p0 kf x164 x165).bind G125 = some r ∧ l' = [.slice A0p p0.length c0p, undef, .slice none 0 0, .int .i64 x62, undef, j5, .slice A164 x164.length c164, undef, getL l' 8, .slice A0p p0.length c0p, .int .i64 (p0.length : Int), j11, j12, j13, j14, j15, j16, j17, j18, j19, j20, j21, j22, .int .i64 x62, .slice A122 u121.length c122, .slice A0p p0.length c0p, .int .i64 (p0.length : Int), .int .i64 x165, getL l' 28, getL l' 29, getL l' 30, getL l' 31, getL l' 32, getL l' 33, getL l' 34, undef] ∧ Hp sb s F0 s' [Ck.ol OI 3 A164 c164 x164]) ((((p0.length : Int)) - (0)).toNat + 2) ⟨u121, A122, c122, 0, H, rfl, hH⟩ ?_
      rintro kf l' s176 ⟨x164, A164, c164, x165, H, hl, hH⟩ K176 hK176
      generalize getL l' 8 = j8, getL l' 28 = j28, getL l' 29 = j29, getL l' 30 = j30, getL l' 31 = j31, getL l' 32 = j32, getL l' 33 = j33, getL l' 34 = j34 at hl
      subst hl
      cases kf with
      | zero => simp [slices_Concat_int_int.l2] at H
      | succ kf =>
        rw [slices_Concat_int_int.l2] at H
        refine HT_seq_k ?_
        intro K177 hK177
        refine HT_region ?_
        refine HL_cons rfl ?_
        refine o_bin rfl rfl rfl ?_
        try dsimp only [putL, setL, evL, getL]
        refine HL_nil ?_
        refine hK177 _ _ ?_
        refine HT_seq_k ?_
        intro K178 hK178
        rcases Bool.eq_false_or_eq_true (decide (x165 < (p0.length : Int))) with hb179 | hb179
        · replace H := iteT hb179 H
          refine HT_true (congrArg Value.bool hb179) ?_
          refine HT_skip ?_
          refine hK178 _ _ ?_
          refine HT_seq_k ?_
          intro K180 hK180
          refine HT_block ?_
          refine HT_seq_k ?_
          intro K181 hK181
          refine HT_region ?_
          obtain ⟨u182, hu182, H⟩ := headE H
          obtain ⟨b182, o182, cs182, hr182, hh182, hel182⟩ := Rd.elb HRp0 hu182
          obtain ⟨A183, c183, rfl, D183⟩ := hr182
          refine HL_cons rfl ?_
          refine hel182 s176 rfl rfl Try.underlying148 tI22 ?_
          try dsimp only [putL, setL, evL, getL]
          refine HL_cons rfl ?_
          refine o_load' rfl Try.underlying22 rfl ((hh182 hH.bs.mono) 0 _ rfl) ?_
          try dsimp only [putL, setL, evL, getL]
          refine HL_cons rfl ?_
          refine o_assign ?_
          try dsimp only [putL, setL, evL, getL]
          refine HL_nil ?_
          refine hK181 _ _ ?_
          refine HT_region ?_
          refine HL_cons rfl ?_
          refine o_move ?_
          try dsimp only [putL, setL, evL, getL]
          refine HL_cons rfl ?_
          refine o_move ?_
          try dsimp only [putL, setL, evL, getL]
          obtain ⟨x184, hx184, H⟩ := headE H
          refine HL_cons rfl ?_
          refine o_appF (K := KI) (n := 17592186044416) (A := A164) (c := c164) (xs := x164) (ys := u182) (B := A183) (c2 := c183) hH 0 rfl rfl rfl rfl Try.underlying22 tI3 rfl (by decide) (by decide) (by decide) (Src.flat (D183.mono hH.bs.mono)) hx184 ?_
          intro A184 c184 s184 hH'
          replace hH : Hp sb s F0 s184 [Ck.ol OI 3 A184 c184 x184] := hH'
          clear hH'
          try dsimp only [putL, setL, evL, getL]
          refine HL_cons rfl ?_
          refine o_assign ?_
          try dsimp only [putL, setL, evL, getL]
          refine HL_nil ?_
          refine hK180 _ _ ?_
          refine HT_region ?_
          refine HL_cons rfl ?_
          refine o_bin rfl rfl rfl ?_
          try dsimp only [putL, setL, evL, getL]
          refine HL_cons rfl ?_
          refine o_move ?_
          try dsimp only [putL, setL, evL, getL]
          refine HL_nil ?_
          exact hK176 _ _ ⟨kf, Nat.lt_succ_self kf, x184, A184, c184, IntKind.i64.wrap (x165 + 1), H, rfl, hH⟩
        · replace H := iteF hb179 H
          refine HT_false (congrArg Value.bool hb179) ?_
          refine HT_exit ?_
          exact hK125 _ _ ⟨x164, A164, c164, H, rfl, hH⟩
    · rintro l' s185 ⟨x155, A155, c155, H, hl, hH⟩
      generalize getL l' 8 = j8, getL l' 27 = j27, getL l' 28 = j28, getL l' 29 = j29, getL l' 30 = j30, getL l' 31 = j31, getL l' 32 = j32, getL l' 33 = j33, getL l' 34 = j34 at hl
      subst hl
      replace H := hG125 _ H
      try dsimp only at H
      refine hK123 _ _ ?_
      refine HT_seq_k ?_
      intro K186 hK186
      refine HT_region ?_
      refine HL_cons rfl ?_
      refine o_move ?_
      try dsimp only [putL, setL, evL, getL]
      refine HL_cons rfl ?_
      refine o_assign ?_
      try dsimp only [putL, setL, evL, getL]
      refine HL_nil ?_
      refine hK186 _ _ ?_
      refine HT_ret ?_
      obtain rfl := Option.some.inj (show some _ = some r from H)
      exact hQr _ _ [.slice A155 x155.length c155] ⟨rfl, trivial⟩ ⟨A155, c155, rfl, hH⟩
def impl_Screen_down.f (p0_0 : Int) (p0_1 : Int) (p0_2 : List (Int)) (p0_3 : Int) (p0_4 : Int) : Option ((List (Int)) × Int × Int) := if (decide (p0_4 < (IntKind.i64.wrap (p0_1 - 1)))) = true then (some (p0_2, 0, (IntKind.i64.wrap (p0_4 + 1)))) else ((cut? p0_2 p0_0 (p0_2.length : Int)).bind fun x8 => (slices_Repeat_int_int.f [32] p0_0).bind fun u10 => (slices_Concat_int_int.f [x8, u10]).bind fun u16 => some (u16, 0, p0_4))
def impl_Screen_down.post (sb s : St) (F0 : Fp) (bp0 : Nat) (p0_0 : Int) (p0_1 : Int) (r : (List (Int)) × Int × Int) : Value → St → Prop := fun v s' => ∃ (A0 : Option Addr) (c0 : Nat), v = .tuple #[] ∧ Hp sb s F0 s' [Ck.ol OI 3 A0 c0 r.1, Ck.ov bp0 [.int .i64 p0_0, .int .i64 p0_1, .slice A0 r.1.length c0, .int .i64 r.2.1, .int .i64 r.2.2] 55]
set_option maxRecDepth 100000 in
set_option maxHeartbeats 4000000 in
theorem impl_Screen_down.ok (sb s : St) (F0 : Fp) (bp0 : Nat) (p0_0 : Int) (p0_1 : Int) (A0_2p : Option Addr) (c0_2p : Nat) (p0_2 : List (Int)) (p0_3 : Int) (p0_4 : Int) (hH : Hp sb s F0 s [Ck.ov bp0 [.int .i64 p0_0, .int .i64 p0_1, .slice A0_2p p0_2.length c0_2p, .int .i64 p0_3, .int .i64 p0_4] 55, Ck.ol OI 3 A0_2p c0_2p p0_2]) (r : (List (Int)) × Int × Int) (H : impl_Screen_down.f p0_0 p0_1 p0_2 p0_3 p0_4 = some r) : GCall Try.prog 160 #[.pointer (some ⟨bp0, 0, none⟩)] s (impl_Screen_down.post sb s F0 bp0 p0_0 p0_1 r) := by
  refine GCall_ofk [] [.pointer (some ⟨bp0, 0, none⟩), undef, undef, undef, undef, undef, undef, undef, undef, undef, undef, undef, undef, undef, undef, undef, undef, undef, undef, undef, undef, undef, undef, undef, undef, undef, undef, undef, undef, undef, undef, undef, undef, undef, undef, undef, undef, undef, undef, undef, undef, undef] Try.func160 rfl rfl rfl ?_
  intro w Q hQr hQn hQp
  replace H := topE H
  unfold impl_Screen_down.f at H
  refine HT_seq_k ?_
  intro K1 hK1
  refine HT_region ?_
  refine HL_cons rfl ?_
  refine o_move ?_
  try dsimp only [putL, setL, evL, getL]
  refine HL_cons rfl ?_
  refine o_nilck rfl ?_
  try dsimp only [putL, setL, evL, getL]
  refine HL_cons rfl ?_
  refine o_faddr' (ft := 3) (off := 3) rfl Try.underlying55 rfl tI3 (by decide) ?_
  try dsimp only [putL, setL, evL, getL]
  refine HL_cons rfl ?_
  refine o_stvH (vs := [.int .i64 0]) (us' := [.int .i64 p0_0, .int .i64 p0_1, .slice A0_2p p0_2.length c0_2p, .int .i64 0, .int .i64 p0_4]) hH 0 rfl rfl rfl rfl rfl tI3 rfl (List.cons_ne_nil _ _) rfl rfl rfl ?_
  intro s2 hH'
  replace hH : Hp sb s F0 s2 [Ck.ov bp0 [.int .i64 p0_0, .int .i64 p0_1, .slice A0_2p p0_2.length c0_2p, .int .i64 0, .int .i64 p0_4] 55, Ck.ol OI 3 A0_2p c0_2p p0_2] := hH'
  clear hH'
  try dsimp only [putL, setL, evL, getL]
  refine HL_nil ?_
  refine hK1 _ _ ?_
  refine HT_seq_k ?_
  intro K3 hK3
  refine HT_seq_k ?_
  intro K4 hK4
  refine HK_draw (fun s' => Gro s2 s') 11 hMix ?_
  have hR := Gro.refl s2
  have hH0 := hH
  refine HK_readP 0 (v := .pointer (some ⟨bp0, 0, none⟩)) rfl (by kernel_rfl) (fun c l s h => hQp c l s h) rfl (fun s' K hK => ?_) rfl rfl (fun _ => hR) ?_
  · refine o_move ?_
    exact hK
  try dsimp only [putL, setL, evL, getL]
  refine HK_readP 1 (v := .pointer (some ⟨bp0, 0, none⟩)) rfl (by kernel_rfl) (fun c l s h => hQp c l s h) rfl (fun s' K hK => ?_) rfl rfl (fun _ => hR) ?_
  · refine o_nilck rfl ?_
    exact hK
  try dsimp only [putL, setL, evL, getL]
  refine HK_readP 2 (v := .pointer (some ⟨bp0, 0 + 4, none⟩)) rfl (by kernel_rfl) (fun c l s h => hQp c l s h) rfl (fun s' K hK => ?_) rfl rfl (fun _ => hR) ?_
  · refine o_faddr' (ft := 3) (off := 4) rfl Try.underlying55 rfl tI3 (by decide) ?_
    exact hK
  try dsimp only [putL, setL, evL, getL]
  refine HK_read 3 (v := .int .i64 p0_4) rfl (by kernel_rfl) (fun c l s h => hQp c l s h) rfl (fun s' hR' K hK => ?_) rfl rfl hR ?_
  · refine o_load' rfl Try.underlying3 rfl (has_gro hR' (hH0.hasv 0 rfl rfl)) ?_
    exact hK
  try dsimp only [putL, setL, evL, getL]
  refine HK_readP 4 (v := .pointer (some ⟨bp0, 0, none⟩)) rfl (by kernel_rfl) (fun c l s h => hQp c l s h) rfl (fun s' K hK => ?_) rfl rfl (fun _ => hR) ?_
  · refine o_move ?_
    exact hK
  try dsimp only [putL, setL, evL, getL]
  refine HK_readP 5 (v := .pointer (some ⟨bp0, 0, none⟩)) rfl (by kernel_rfl) (fun c l s h => hQp c l s h) rfl (fun s' K hK => ?_) rfl rfl (fun _ => hR) ?_
  · refine o_nilck rfl ?_
    exact hK
  try dsimp only [putL, setL, evL, getL]
  refine HK_readP 6 (v := .pointer (some ⟨bp0, 0 + 1, none⟩)) rfl (by kernel_rfl) (fun c l s h => hQp c l s h) rfl (fun s' K hK => ?_) rfl rfl (fun _ => hR) ?_
  · refine o_faddr' (ft := 3) (off := 1) rfl Try.underlying55 rfl tI3 (by decide) ?_
    exact hK
  try dsimp only [putL, setL, evL, getL]
  refine HK_read 7 (v := .int .i64 p0_1) rfl (by kernel_rfl) (fun c l s h => hQp c l s h) rfl (fun s' hR' K hK => ?_) rfl rfl hR ?_
  · refine o_load' rfl Try.underlying3 rfl (has_gro hR' (hH0.hasv 0 rfl rfl)) ?_
    exact hK
  try dsimp only [putL, setL, evL, getL]
  refine HK_readP 8 (v := .int .i64 (IntKind.i64.wrap (p0_1 - 1))) rfl (by kernel_rfl) (fun c l s h => hQp c l s h) rfl (fun s' K hK => ?_) rfl rfl (fun _ => hR) ?_
  · refine o_bin rfl rfl rfl ?_
    exact hK
  try dsimp only [putL, setL, evL, getL]
  refine HK_readP 9 (v := .bool (decide (p0_4 < (IntKind.i64.wrap (p0_1 - 1))))) rfl (by kernel_rfl) (fun c l s h => hQp c l s h) rfl (fun s' K hK => ?_) rfl rfl (fun _ => hR) ?_
  · refine o_bin rfl rfl rfl ?_
    exact hK
  try dsimp only [putL, setL, evL, getL]
  refine HK_done (fun _ => hR) (by kernel_rfl) ?_
  refine hK4 _ _ ?_
  rcases Bool.eq_false_or_eq_true (decide (p0_4 < (IntKind.i64.wrap (p0_1 - 1)))) with hb5 | hb5
  · replace H := iteT hb5 H
    refine HT_true (congrArg Value.bool hb5) ?_
    refine HT_seq_k ?_
    intro K6 hK6
    refine HT_region ?_
    refine HL_cons rfl ?_
    refine o_move ?_
    try dsimp only [putL, setL, evL, getL]
    refine HL_cons rfl ?_
    refine o_nilck rfl ?_
    try dsimp only [putL, setL, evL, getL]
    refine HL_cons rfl ?_
    refine o_faddr' (ft := 3) (off := 4) rfl Try.underlying55 rfl tI3 (by decide) ?_
    try dsimp only [putL, setL, evL, getL]
    refine HL_cons rfl ?_
    refine o_load' rfl Try.underlying3 rfl (hH.hasv 0 rfl rfl) ?_
    try dsimp only [putL, setL, evL, getL]
    refine HL_cons rfl ?_
    refine o_bin rfl rfl rfl ?_
    try dsimp only [putL, setL, evL, getL]
    refine HL_cons rfl ?_
    refine o_nilck rfl ?_
    try dsimp only [putL, setL, evL, getL]
    refine HL_cons rfl ?_
    refine o_faddr' (ft := 3) (off := 4) rfl Try.underlying55 rfl tI3 (by decide) ?_
    try dsimp only [putL, setL, evL, getL]
    refine HL_cons rfl ?_
    refine o_stvH (vs := [.int .i64 (IntKind.i64.wrap (p0_4 + 1))]) (us' := [.int .i64 p0_0, .int .i64 p0_1, .slice A0_2p p0_2.length c0_2p, .int .i64 0, .int .i64 (IntKind.i64.wrap (p0_4 + 1))]) hH 0 rfl rfl rfl rfl rfl tI3 rfl (List.cons_ne_nil _ _) rfl rfl rfl ?_
    intro s7 hH'
    replace hH : Hp sb s F0 s7 [Ck.ov bp0 [.int .i64 p0_0, .int .i64 p0_1, .slice A0_2p p0_2.length c0_2p, .int .i64 0, .int .i64 (IntKind.i64.wrap (p0_4 + 1))] 55, Ck.ol OI 3 A0_2p c0_2p p0_2] := hH'
    clear hH'
    try dsimp only [putL, setL, evL, getL]
    refine HL_nil ?_
    refine hK6 _ _ ?_
    refine HT_ret ?_
    obtain rfl := Option.some.inj (show some _ = some r from H)
    exact hQr _ _ [] trivial ⟨A0_2p, c0_2p, rfl, hH.sel [1, 0] (by decide)⟩
  · replace H := iteF hb5 H
    refine HT_false (congrArg Value.bool hb5) ?_
    refine HT_skip ?_
    refine hK3 _ _ ?_
    refine HK_draw (fun s' => Gro s2 s') 20 hMix ?_
    have hR := Gro.refl s2
    have hH0 := hH
    refine HK_readP 1 (v := .pointer (some ⟨bp0, 0, none⟩)) rfl (by kernel_rfl) (fun c l s h => hQp c l s h) rfl (fun s' K hK => ?_) rfl rfl (fun _ => hR) ?_
    · refine o_move ?_
      exact hK
    try dsimp only [putL, setL, evL, getL]
    refine HK_readP 2 (v := .pointer (some ⟨bp0, 0, none⟩)) rfl (by kernel_rfl) (fun c l s h => hQp c l s h) rfl (fun s' K hK => ?_) rfl rfl (fun _ => hR) ?_
    · refine o_nilck rfl ?_
      exact hK
    try dsimp only [putL, setL, evL, getL]
    refine HK_readP 3 (v := .pointer (some ⟨bp0, 0 + 2, none⟩)) rfl (by kernel_rfl) (fun c l s h => hQp c l s h) rfl (fun s' K hK => ?_) rfl rfl (fun _ => hR) ?_
    · refine o_faddr' (ft := 22) (off := 2) rfl Try.underlying55 rfl tI22 (by decide) ?_
      exact hK
    try dsimp only [putL, setL, evL, getL]
    refine HK_read 4 (v := .slice A0_2p p0_2.length c0_2p) rfl (by kernel_rfl) (fun c l s h => hQp c l s h) rfl (fun s' hR' K hK => ?_) rfl rfl hR ?_
    · refine o_load' rfl Try.underlying22 rfl (has_gro hR' (hH0.hasv 0 rfl rfl)) ?_
      exact hK
    try dsimp only [putL, setL, evL, getL]
    refine HK_readP 5 (v := .pointer (some ⟨bp0, 0, none⟩)) rfl (by kernel_rfl) (fun c l s h => hQp c l s h) rfl (fun s' K hK => ?_) rfl rfl (fun _ => hR) ?_
    · refine o_move ?_
      exact hK
    try dsimp only [putL, setL, evL, getL]
    refine HK_readP 6 (v := .pointer (some ⟨bp0, 0, none⟩)) rfl (by kernel_rfl) (fun c l s h => hQp c l s h) rfl (fun s' K hK => ?_) rfl rfl (fun _ => hR) ?_
    · refine o_nilck rfl ?_
      exact hK
    try dsimp only [putL, setL, evL, getL]
    refine HK_readP 7 (v := .pointer (some ⟨bp0, 0 + 0, none⟩)) rfl (by kernel_rfl) (fun c l s h => hQp c l s h) rfl (fun s' K hK => ?_) rfl rfl (fun _ => hR) ?_
    · refine o_faddr' (ft := 3) (off := 0) rfl Try.underlying55 rfl tI3 (by decide) ?_
      exact hK
    try dsimp only [putL, setL, evL, getL]
    refine HK_read 8 (v := .int .i64 p0_0) rfl (by kernel_rfl) (fun c l s h => hQp c l s h) rfl (fun s' hR' K hK => ?_) rfl rfl hR ?_
    · refine o_load' rfl Try.underlying3 rfl (has_gro hR' (hH0.hasv 0 rfl rfl)) ?_
      exact hK
    try dsimp only [putL, setL, evL, getL]
    obtain ⟨x8, hx8, H⟩ := headE H
    refine HK_readP 9 (v := .slice (cutA A0_2p c0_2p (Int.toNat p0_0) (Kd.sz KI)) x8.length (c0_2p - Int.toNat p0_0)) rfl (by kernel_rfl) (fun c l s h => hQp c l s h) rfl (fun s' K hK => ?_) rfl rfl (fun _ => hR) ?_
    · refine o_cutA (xs := p0_2) (kl := .i64) (kh := .i64) (L := p0_0) (H := (p0_2.length : Int)) rfl rfl rfl Try.underlying22 tI3 (hH.rd 1 rfl).1 hx8 ?_
      exact hK
    have D8 := @Der.cut _ _ OI 3 A0_2p c0_2p _ _ _ _ hx8
    try dsimp only [putL, setL, evL, getL]
    refine HK_readP 11 (v := .pointer (some ⟨bp0, 0, none⟩)) rfl (by kernel_rfl) (fun c l s h => hQp c l s h) rfl (fun s' K hK => ?_) rfl rfl (fun _ => hR) ?_
    · refine o_move ?_
      exact hK
    try dsimp only [putL, setL, evL, getL]
    refine HK_readP 12 (v := .pointer (some ⟨bp0, 0, none⟩)) rfl (by kernel_rfl) (fun c l s h => hQp c l s h) rfl (fun s' K hK => ?_) rfl rfl (fun _ => hR) ?_
    · refine o_nilck rfl ?_
      exact hK
    try dsimp only [putL, setL, evL, getL]
    refine HK_readP 13 (v := .pointer (some ⟨bp0, 0 + 0, none⟩)) rfl (by kernel_rfl) (fun c l s h => hQp c l s h) rfl (fun s' K hK => ?_) rfl rfl (fun _ => hR) ?_
    · refine o_faddr' (ft := 3) (off := 0) rfl Try.underlying55 rfl tI3 (by decide) ?_
      exact hK
    try dsimp only [putL, setL, evL, getL]
    refine HK_read 14 (v := .int .i64 p0_0) rfl (by kernel_rfl) (fun c l s h => hQp c l s h) rfl (fun s' hR' K hK => ?_) rfl rfl hR ?_
    · refine o_load' rfl Try.underlying3 rfl (has_gro hR' (hH0.hasv 0 rfl rfl)) ?_
      exact hK
    try dsimp only [putL, setL, evL, getL]
    refine HK_readP 0 (v := .pointer (some ⟨bp0, 0, none⟩)) rfl (by kernel_rfl) (fun c l s h => hQp c l s h) rfl (fun s' K hK => ?_) rfl rfl (fun _ => hR) ?_
    · refine o_move ?_
      exact hK
    try dsimp only [putL, setL, evL, getL]
    refine HK_one 10 (by kernel_rfl) rfl (fun _ => hR) rfl ?_
    refine o_litF (K := KI) (O := OI) (ca := #[.int .i64 32]) [[.int .i64 32]] [32] hH Try.underlying22 tI3 rfl (by decide) rfl rfl rfl rfl ⟨rfl, Ent.own (Ent.flat rfl), trivial⟩ ?_
    intro A9 s9 hH' hG
    replace hR := hR.trans hG
    replace hH : Hp sb s F0 s9 [Ck.ov bp0 [.int .i64 p0_0, .int .i64 p0_1, .slice A0_2p p0_2.length c0_2p, .int .i64 0, .int .i64 p0_4] 55, Ck.ol OI 3 A0_2p c0_2p p0_2, Ck.ol OI 3 A9 1 [32]] := hH'
    clear hH' hG
    try dsimp only [putL, setL, evL, getL]
    obtain ⟨u10, hu10, H⟩ := headE H
    refine HK_one 15 (by kernel_rfl) rfl (fun _ => hR) rfl ?_
    refine o_call (args := #[.slice A9 [32].length 1, .int .i64 p0_0]) Try.func167 rfl rfl rfl (slices_Repeat_int_int.ok s9 s9 no A9 1 [32] p0_0 (hH.rd 2 rfl) (Hp.own (Bs.refl s9)) _ hu10) ?_
    rintro _ s10 ⟨A11, c11, rfl, hD⟩
    replace hR := hR.trans hD.gro
    replace hH := hH.back0T hD
    clear hD
    dsimp only [addC, setC, rmC, selC, getC] at hH
    try dsimp only [putL, setL, evL, getL]
    replace hH := hH.cut 1 rfl rfl hx8
    dsimp only [addC, setC, rmC, selC, getC] at hH
    obtain ⟨sb14, hU14, D14, hH⟩ := hH.freeze 1 rfl rfl
    dsimp only [addC, setC, rmC, selC, getC] at hH
    obtain ⟨sb15, hU15, D15, hH⟩ := hH.freeze 3 rfl rfl
    dsimp only [addC, setC, rmC, selC, getC] at hH
    refine HK_one 16 (by kernel_rfl) rfl (fun _ => hR) rfl ?_
    refine o_litF (K := (Kd.sl KI)) (O := (Ow.lent (Kd.sl KI))) (ca := #[.slice (cutA A0_2p c0_2p (Int.toNat p0_0) (Kd.sz KI)) x8.length (c0_2p - Int.toNat p0_0), .slice A11 u10.length c11]) [[.slice (cutA A0_2p c0_2p (Int.toNat p0_0) (Kd.sz KI)) x8.length (c0_2p - Int.toNat p0_0)], [.slice A11 u10.length c11]] [x8, u10] hH Try.underlying148 tI22 rfl (by decide) rfl rfl rfl rfl ⟨rfl, Ent.own (Ent.lent ⟨_, _, rfl, (D14.mono hU15.bs.mono)⟩), rfl, Ent.own (Ent.lent ⟨_, _, rfl, D15⟩), trivial⟩ ?_
    intro A12 s12 hH' hG
    replace hR := hR.trans hG
    replace hH : Hp sb15 s F0 s12 [Ck.ov bp0 [.int .i64 p0_0, .int .i64 p0_1, .slice A0_2p p0_2.length c0_2p, .int .i64 0, .int .i64 p0_4] 55, Ck.emp, Ck.ol OI 3 A9 1 [32], Ck.emp, Ck.ol (Ow.lent (Kd.sl KI)) 22 A12 2 [x8, u10]] := hH'
    clear hH' hG
    try dsimp only [putL, setL, evL, getL]
    obtain ⟨u16, hu16, H⟩ := headE H
    refine HK_one 17 (by kernel_rfl) rfl (fun _ => hR) rfl ?_
    refine o_call (args := #[.slice A12 [x8, u10].length 2]) Try.func152 rfl rfl rfl (slices_Concat_int_int.ok s12 s12 no A12 2 [x8, u10] (hH.rd 4 rfl) (Hp.own (Bs.refl s12)) _ hu16) ?_
    rintro _ s16 ⟨A17, c17, rfl, hD⟩
    replace hR := hR.trans hD.gro
    replace hH := hH.back0T hD
    clear hD
    dsimp only [addC, setC, rmC, selC, getC] at hH
    try dsimp only [putL, setL, evL, getL]
    refine HK_readP 18 (v := .pointer (some ⟨bp0, 0, none⟩)) rfl (by kernel_rfl) (fun c l s h => hQp c l s h) rfl (fun s' K hK => ?_) rfl rfl (fun _ => hR) ?_
    · refine o_nilck rfl ?_
      exact hK
    try dsimp only [putL, setL, evL, getL]
    refine HK_readP 19 (v := .pointer (some ⟨bp0, 0 + 2, none⟩)) rfl (by kernel_rfl) (fun c l s h => hQp c l s h) rfl (fun s' K hK => ?_) rfl rfl (fun _ => hR) ?_
    · refine o_faddr' (ft := 22) (off := 2) rfl Try.underlying55 rfl tI22 (by decide) ?_
      exact hK
    try dsimp only [putL, setL, evL, getL]
    refine HK_one 20 (by kernel_rfl) rfl (fun _ => hR) rfl ?_
    refine o_stvH (vs := [.slice A17 u16.length c17]) (us' := [.int .i64 p0_0, .int .i64 p0_1, .slice A17 u16.length c17, .int .i64 0, .int .i64 p0_4]) hH 0 rfl rfl rfl rfl rfl tI22 rfl (List.cons_ne_nil _ _) rfl rfl rfl ?_
    intro s18 hH'
    replace hH : Hp sb15 s F0 s18 [Ck.ov bp0 [.int .i64 p0_0, .int .i64 p0_1, .slice A17 u16.length c17, .int .i64 0, .int .i64 p0_4] 55, Ck.emp, Ck.ol OI 3 A9 1 [32], Ck.emp, Ck.ol (Ow.lent (Kd.sl KI)) 22 A12 2 [x8, u10], Ck.ol OI 3 A17 c17 u16] := hH'
    clear hH'
    try dsimp only [putL, setL, evL, getL]
    refine HK_done' (by kernel_rfl) (by kernel_rfl) ?_
    replace hH := hH.drop 4 rfl
    dsimp only [addC, setC, rmC, selC, getC] at hH
    replace hH : Hp sb s F0 s18 [Ck.ov bp0 [.int .i64 p0_0, .int .i64 p0_1, .slice A17 u16.length c17, .int .i64 0, .int .i64 p0_4] 55, Ck.emp, Ck.ol OI 3 A9 1 [32], Ck.emp, Ck.emp, Ck.ol OI 3 A17 c17 u16] := hH.down (hU14.bs.trans hU15.bs)
    obtain rfl := Option.some.inj (show some _ = some r from H)
    exact hQn _ _ [] trivial ⟨A17, c17, rfl, hH.sel [5, 0] (by decide)⟩
def impl_newScreen.f (p0 : Int) (p1 : Int) : Option (Int × Int × (List (Int)) × Int × Int) := (slices_Repeat_int_int.f [32] (IntKind.i64.wrap (p0 * p1))).bind fun u5 => some (p0, p1, u5, 0, 0)
def impl_newScreen.post (sb s : St) (F0 : Fp) (r : Int × Int × (List (Int)) × Int × Int) : Value → St → Prop := fun v s' => ∃ (A2 : Option Addr) (c2 : Nat), v = .agg #[.int .i64 r.1, .int .i64 r.2.1, .slice A2 r.2.2.1.length c2, .int .i64 r.2.2.2.1, .int .i64 r.2.2.2.2] ∧ Hp sb s F0 s' [Ck.ol OI 3 A2 c2 r.2.2.1]
set_option maxRecDepth 100000 in
set_option maxHeartbeats 4000000 in
theorem impl_newScreen.ok (sb s : St) (F0 : Fp) (p0 : Int) (p1 : Int) (hH : Hp sb s F0 s []) (r : Int × Int × (List (Int)) × Int × Int) (H : impl_newScreen.f p0 p1 = some r) : GCall Try.prog 161 #[.int .i64 p0, .int .i64 p1] s (impl_newScreen.post sb s F0 r) := by
  refine GCall_ofk [.cell 4 55] [.int .i64 p0, .int .i64 p1, undef, undef, undef, undef, undef, undef, undef, undef, undef, undef, undef] Try.func161 rfl rfl rfl ?_
  intro w Q hQr hQn hQp
  replace H := topE H
  unfold impl_newScreen.f at H
  refine HT_seq_k ?_
  intro K1 hK1
  refine HT_region ?_
  refine HL_cons rfl ?_
  refine o_allocH hH tI55 ?_
  intro b2 s2 hH' hG
  replace hH : Hp sb s F0 s2 [Ck.ov b2 [.int .i64 0, .int .i64 0, .slice none 0 0, .int .i64 0, .int .i64 0] 55] := hH'
  clear hH' hG
  try dsimp only [putL, setL, evL, getL]
  refine HL_nil ?_
  refine hK1 _ _ ?_
  refine HT_seq_k ?_
  intro K3 hK3
  refine HT_region ?_
  refine HL_cons rfl ?_
  refine o_move ?_
  try dsimp only [putL, setL, evL, getL]
  refine HL_cons rfl ?_
  refine o_move ?_
  try dsimp only [putL, setL, evL, getL]
  refine HL_cons rfl ?_
  refine o_litF (K := KI) (O := OI) (ca := #[.int .i64 32]) [[.int .i64 32]] [32] hH Try.underlying22 tI3 rfl (by decide) rfl rfl rfl rfl ⟨rfl, Ent.own (Ent.flat rfl), trivial⟩ ?_
  intro A4 s4 hH' hG
  replace hH : Hp sb s F0 s4 [Ck.ov b2 [.int .i64 0, .int .i64 0, .slice none 0 0, .int .i64 0, .int .i64 0] 55, Ck.ol OI 3 A4 1 [32]] := hH'
  clear hH' hG
  try dsimp only [putL, setL, evL, getL]
  refine HL_cons rfl ?_
  refine o_move ?_
  try dsimp only [putL, setL, evL, getL]
  refine HL_cons rfl ?_
  refine o_move ?_
  try dsimp only [putL, setL, evL, getL]
  refine HL_cons rfl ?_
  refine o_bin rfl rfl rfl ?_
  try dsimp only [putL, setL, evL, getL]
  obtain ⟨u5, hu5, H⟩ := headE H
  refine HL_cons rfl ?_
  refine o_call (args := #[.slice A4 [32].length 1, .int .i64 (IntKind.i64.wrap (p0 * p1))]) Try.func167 rfl rfl rfl (slices_Repeat_int_int.ok s4 s4 no A4 1 [32] (IntKind.i64.wrap (p0 * p1)) (hH.rd 1 rfl) (Hp.own (Bs.refl s4)) _ hu5) ?_
  rintro _ s5 ⟨A6, c6, rfl, hD⟩
  replace hH := hH.back0T hD
  clear hD
  dsimp only [addC, setC, rmC, selC, getC] at hH
  try dsimp only [putL, setL, evL, getL]
  refine HL_cons rfl ?_
  refine o_build (pl := [(0, 1), (1, 1), (2, 1), (3, 1), (4, 1)]) (cs := #[.int .i64 p0, .int .i64 p1, .slice A6 u5.length c6, .int .i64 0, .int .i64 0]) Try.underlying55 tI55 (by kernel_rfl) (by kernel_rfl) rfl ?_
  try dsimp only [putL, setL, evL, getL]
  refine HL_cons rfl ?_
  refine o_stvH (vs := [.int .i64 p0, .int .i64 p1, .slice A6 u5.length c6, .int .i64 0, .int .i64 0]) (us' := [.int .i64 p0, .int .i64 p1, .slice A6 u5.length c6, .int .i64 0, .int .i64 0]) hH 0 rfl rfl rfl rfl rfl tI55 rfl (List.cons_ne_nil _ _) rfl rfl rfl ?_
  intro s7 hH'
  replace hH : Hp sb s F0 s7 [Ck.ov b2 [.int .i64 p0, .int .i64 p1, .slice A6 u5.length c6, .int .i64 0, .int .i64 0] 55, Ck.ol OI 3 A4 1 [32], Ck.ol OI 3 A6 c6 u5] := hH'
  clear hH'
  try dsimp only [putL, setL, evL, getL]
  refine HL_nil ?_
  refine hK3 _ _ ?_
  refine HT_ret ?_
  obtain rfl := Option.some.inj (show some _ = some r from H)
  exact hQr _ _ [.agg #[.int .i64 p0, .int .i64 p1, .slice A6 u5.length c6, .int .i64 0, .int .i64 0]] ⟨ResV.cells rfl Try.underlying55 rfl tI55 (hH.var 0 rfl) rfl, trivial⟩ ⟨A6, c6, rfl, hH.sel [2] (by decide)⟩
def impl_Screen_put.f (p0_0 : Int) (p0_1 : Int) (p0_2 : List (Int)) (p0_3 : Int) (p0_4 : Int) (p1 : Int) : Option (Int × Int × (List (Int)) × Int × Int) := if (p1 == 8) = true then (some (p0_0, p0_1, p0_2, (max (IntKind.i64.wrap (p0_3 - 1)) 0), p0_4)) else (if (p1 == 9) = true then ((quo? .i64 p0_3 4).bind fun u6 => some (p0_0, p0_1, p0_2, (min (IntKind.i64.wrap ((IntKind.i64.wrap (u6 + 1)) * 4)) p0_0), p0_4)) else (if (p1 == 10) = true then ((impl_Screen_down.f p0_0 p0_1 p0_2 p0_3 p0_4).bind fun u10 => some (p0_0, p0_1, u10.1, u10.2.1, u10.2.2)) else (if (p1 == 12) = true then ((impl_newScreen.f p0_0 p0_1).bind fun u14 => some (u14.1, u14.2.1, u14.2.2.1, u14.2.2.2.1, u14.2.2.2.2)) else (if (p1 == 13) = true then (some (p0_0, p0_1, p0_2, 0, p0_4)) else (if (decide (p1 ≥ 32)) = true then ((if (p0_3 == p0_0) = true then ((impl_Screen_down.f p0_0 p0_1 p0_2 p0_3 p0_4).bind fun u32 => some (u32.1, u32.2.1, u32.2.2)) else (some (p0_2, p0_3, p0_4))).bind fun (o : (List (Int)) × Int × Int) => match o with | (x27, x28, x29) => ((rd? x27 (IntKind.i64.wrap ((IntKind.i64.wrap (x29 * p0_0)) + x28))).bind fun u36 => (st? x27 (IntKind.i64.wrap ((IntKind.i64.wrap (x29 * p0_0)) + x28)) p1).bind fun x37 => some (p0_0, p0_1, x37, (IntKind.i64.wrap (x28 + 1)), x29))) else (some (p0_0, p0_1, p0_2, p0_3, p0_4)))))))
def impl_Screen_put.post (sb s : St) (F0 : Fp) (bp0 : Nat) (r : Int × Int × (List (Int)) × Int × Int) : Value → St → Prop := fun v s' => ∃ (A2 : Option Addr) (c2 : Nat), v = .tuple #[] ∧ Hp sb s F0 s' [Ck.ol OI 3 A2 c2 r.2.2.1, Ck.ov bp0 [.int .i64 r.1, .int .i64 r.2.1, .slice A2 r.2.2.1.length c2, .int .i64 r.2.2.2.1, .int .i64 r.2.2.2.2] 55]
set_option maxRecDepth 100000 in
set_option maxHeartbeats 4000000 in
theorem impl_Screen_put.ok (sb s : St) (F0 : Fp) (bp0 : Nat) (p0_0 : Int) (p0_1 : Int) (A0_2p : Option Addr) (c0_2p : Nat) (p0_2 : List (Int)) (p0_3 : Int) (p0_4 : Int) (p1 : Int) (hH : Hp sb s F0 s [Ck.ov bp0 [.int .i64 p0_0, .int .i64 p0_1, .slice A0_2p p0_2.length c0_2p, .int .i64 p0_3, .int .i64 p0_4] 55, Ck.ol OI 3 A0_2p c0_2p p0_2]) (r : Int × Int × (List (Int)) × Int × Int) (H : impl_Screen_put.f p0_0 p0_1 p0_2 p0_3 p0_4 p1 = some r) : GCall Try.prog 137 #[.pointer (some ⟨bp0, 0, none⟩), .int .i64 p1] s (impl_Screen_put.post sb s F0 bp0 r) := by
  refine GCall_ofk [] [.pointer (some ⟨bp0, 0, none⟩), .int .i64 p1, undef, undef, undef, undef, undef, undef, undef, undef, undef, undef, undef, undef, undef, undef, undef, undef, undef, undef, undef, undef, undef, undef, undef, undef, undef, undef, undef, undef, undef, undef, undef, undef, undef, undef, undef, undef, undef, undef, undef, undef, undef, undef, undef, undef, undef, undef, undef, undef, undef, undef, undef, undef, undef, undef, undef, undef, undef, undef, undef, undef, undef, undef, undef, undef, undef, undef, undef, undef, undef, undef, undef, undef, undef, undef, undef, undef, undef, undef, undef, undef, undef, undef, undef, undef, undef, undef, undef, undef, undef, undef, undef, undef, undef, undef, undef, undef, undef, undef] Try.func137 rfl rfl rfl ?_
  intro w Q hQr hQn hQp
  replace H := topE H
  unfold impl_Screen_put.f at H
  refine HT_block ?_
  refine HT_seq_k ?_
  intro K1 hK1
  refine HT_region ?_
  refine HL_cons rfl ?_
  refine o_move ?_
  try dsimp only [putL, setL, evL, getL]
  refine HL_cons rfl ?_
  refine o_bin rfl rfl rfl ?_
  try dsimp only [putL, setL, evL, getL]
  refine HL_cons rfl ?_
  refine o_assign ?_
  try dsimp only [putL, setL, evL, getL]
  refine HL_nil ?_
  refine hK1 _ _ ?_
  rcases Bool.eq_false_or_eq_true (p1 == 8) with hb2 | hb2
  · replace H := iteT hb2 H
    refine HT_true (congrArg Value.bool hb2) ?_
    refine HT_region ?_
    refine HL_cons rfl ?_
    refine o_move ?_
    try dsimp only [putL, setL, evL, getL]
    refine HL_cons rfl ?_
    refine o_move ?_
    try dsimp only [putL, setL, evL, getL]
    refine HL_cons rfl ?_
    refine o_nilck rfl ?_
    try dsimp only [putL, setL, evL, getL]
    refine HL_cons rfl ?_
    refine o_faddr' (ft := 3) (off := 3) rfl Try.underlying55 rfl tI3 (by decide) ?_
    try dsimp only [putL, setL, evL, getL]
    refine HL_cons rfl ?_
    refine o_load' rfl Try.underlying3 rfl (hH.hasv 0 rfl rfl) ?_
    try dsimp only [putL, setL, evL, getL]
    refine HL_cons rfl ?_
    refine o_bin rfl rfl rfl ?_
    try dsimp only [putL, setL, evL, getL]
    refine HL_cons rfl ?_
    refine o_max2 rfl rfl ?_
    try dsimp only [putL, setL, evL, getL]
    refine HL_cons rfl ?_
    refine o_nilck rfl ?_
    try dsimp only [putL, setL, evL, getL]
    refine HL_cons rfl ?_
    refine o_faddr' (ft := 3) (off := 3) rfl Try.underlying55 rfl tI3 (by decide) ?_
    try dsimp only [putL, setL, evL, getL]
    refine HL_cons rfl ?_
    refine o_stvH (vs := [.int .i64 (max (IntKind.i64.wrap (p0_3 - 1)) 0)]) (us' := [.int .i64 p0_0, .int .i64 p0_1, .slice A0_2p p0_2.length c0_2p, .int .i64 (max (IntKind.i64.wrap (p0_3 - 1)) 0), .int .i64 p0_4]) hH 0 rfl rfl rfl rfl rfl tI3 rfl (List.cons_ne_nil _ _) rfl rfl rfl ?_
    intro s3 hH'
    replace hH : Hp sb s F0 s3 [Ck.ov bp0 [.int .i64 p0_0, .int .i64 p0_1, .slice A0_2p p0_2.length c0_2p, .int .i64 (max (IntKind.i64.wrap (p0_3 - 1)) 0), .int .i64 p0_4] 55, Ck.ol OI 3 A0_2p c0_2p p0_2] := hH'
    clear hH'
    try dsimp only [putL, setL, evL, getL]
    refine HL_nil ?_
    obtain rfl := Option.some.inj (show some _ = some r from H)
    exact hQn _ _ [] trivial ⟨A0_2p, c0_2p, rfl, hH.sel [1, 0] (by decide)⟩
  · replace H := iteF hb2 H
    refine HT_false (congrArg Value.bool hb2) ?_
    refine HT_seq_k ?_
    intro K4 hK4
    refine HT_region ?_
    refine HL_cons rfl ?_
    refine o_move ?_
    try dsimp only [putL, setL, evL, getL]
    refine HL_cons rfl ?_
    refine o_bin rfl rfl rfl ?_
    try dsimp only [putL, setL, evL, getL]
    refine HL_cons rfl ?_
    refine o_assign ?_
    try dsimp only [putL, setL, evL, getL]
    refine HL_nil ?_
    refine hK4 _ _ ?_
    rcases Bool.eq_false_or_eq_true (p1 == 9) with hb5 | hb5
    · replace H := iteT hb5 H
      refine HT_true (congrArg Value.bool hb5) ?_
      refine HK_draw (fun s' => Gro s s') 15 hMix ?_
      have hR := Gro.refl s
      have hH0 := hH
      refine HK_readP 1 (v := .pointer (some ⟨bp0, 0, none⟩)) rfl (by kernel_rfl) (fun c l s h => hQp c l s h) rfl (fun s' K hK => ?_) rfl rfl (fun _ => hR) ?_
      · refine o_move ?_
        exact hK
      try dsimp only [putL, setL, evL, getL]
      refine HK_readP 2 (v := .pointer (some ⟨bp0, 0, none⟩)) rfl (by kernel_rfl) (fun c l s h => hQp c l s h) rfl (fun s' K hK => ?_) rfl rfl (fun _ => hR) ?_
      · refine o_nilck rfl ?_
        exact hK
      try dsimp only [putL, setL, evL, getL]
      refine HK_readP 3 (v := .pointer (some ⟨bp0, 0 + 3, none⟩)) rfl (by kernel_rfl) (fun c l s h => hQp c l s h) rfl (fun s' K hK => ?_) rfl rfl (fun _ => hR) ?_
      · refine o_faddr' (ft := 3) (off := 3) rfl Try.underlying55 rfl tI3 (by decide) ?_
        exact hK
      try dsimp only [putL, setL, evL, getL]
      refine HK_read 4 (v := .int .i64 p0_3) rfl (by kernel_rfl) (fun c l s h => hQp c l s h) rfl (fun s' hR' K hK => ?_) rfl rfl hR ?_
      · refine o_load' rfl Try.underlying3 rfl (has_gro hR' (hH0.hasv 0 rfl rfl)) ?_
        exact hK
      try dsimp only [putL, setL, evL, getL]
      obtain ⟨u6, hu6, H⟩ := headE H
      refine HK_readP 5 (v := .int .i64 u6) rfl (by kernel_rfl) (fun c l s h => hQp c l s h) rfl (fun s' K hK => ?_) rfl rfl (fun _ => hR) ?_
      · refine o_quo' rfl rfl hu6 ?_
        exact hK
      try dsimp only [putL, setL, evL, getL]
      refine HK_readP 6 (v := .int .i64 (IntKind.i64.wrap (u6 + 1))) rfl (by kernel_rfl) (fun c l s h => hQp c l s h) rfl (fun s' K hK => ?_) rfl rfl (fun _ => hR) ?_
      · refine o_bin rfl rfl rfl ?_
        exact hK
      try dsimp only [putL, setL, evL, getL]
      refine HK_readP 7 (v := .int .i64 (IntKind.i64.wrap ((IntKind.i64.wrap (u6 + 1)) * 4))) rfl (by kernel_rfl) (fun c l s h => hQp c l s h) rfl (fun s' K hK => ?_) rfl rfl (fun _ => hR) ?_
      · refine o_bin rfl rfl rfl ?_
        exact hK
      try dsimp only [putL, setL, evL, getL]
      refine HK_readP 8 (v := .pointer (some ⟨bp0, 0, none⟩)) rfl (by kernel_rfl) (fun c l s h => hQp c l s h) rfl (fun s' K hK => ?_) rfl rfl (fun _ => hR) ?_
      · refine o_move ?_
        exact hK
      try dsimp only [putL, setL, evL, getL]
      refine HK_readP 9 (v := .pointer (some ⟨bp0, 0, none⟩)) rfl (by kernel_rfl) (fun c l s h => hQp c l s h) rfl (fun s' K hK => ?_) rfl rfl (fun _ => hR) ?_
      · refine o_nilck rfl ?_
        exact hK
      try dsimp only [putL, setL, evL, getL]
      refine HK_readP 10 (v := .pointer (some ⟨bp0, 0 + 0, none⟩)) rfl (by kernel_rfl) (fun c l s h => hQp c l s h) rfl (fun s' K hK => ?_) rfl rfl (fun _ => hR) ?_
      · refine o_faddr' (ft := 3) (off := 0) rfl Try.underlying55 rfl tI3 (by decide) ?_
        exact hK
      try dsimp only [putL, setL, evL, getL]
      refine HK_read 11 (v := .int .i64 p0_0) rfl (by kernel_rfl) (fun c l s h => hQp c l s h) rfl (fun s' hR' K hK => ?_) rfl rfl hR ?_
      · refine o_load' rfl Try.underlying3 rfl (has_gro hR' (hH0.hasv 0 rfl rfl)) ?_
        exact hK
      try dsimp only [putL, setL, evL, getL]
      refine HK_readP 12 (v := .int .i64 (min (IntKind.i64.wrap ((IntKind.i64.wrap (u6 + 1)) * 4)) p0_0)) rfl (by kernel_rfl) (fun c l s h => hQp c l s h) rfl (fun s' K hK => ?_) rfl rfl (fun _ => hR) ?_
      · refine o_min2 rfl rfl ?_
        exact hK
      try dsimp only [putL, setL, evL, getL]
      refine HK_readP 0 (v := .pointer (some ⟨bp0, 0, none⟩)) rfl (by kernel_rfl) (fun c l s h => hQp c l s h) rfl (fun s' K hK => ?_) rfl rfl (fun _ => hR) ?_
      · refine o_move ?_
        exact hK
      try dsimp only [putL, setL, evL, getL]
      refine HK_readP 13 (v := .pointer (some ⟨bp0, 0, none⟩)) rfl (by kernel_rfl) (fun c l s h => hQp c l s h) rfl (fun s' K hK => ?_) rfl rfl (fun _ => hR) ?_
      · refine o_nilck rfl ?_
        exact hK
      try dsimp only [putL, setL, evL, getL]
      refine HK_readP 14 (v := .pointer (some ⟨bp0, 0 + 3, none⟩)) rfl (by kernel_rfl) (fun c l s h => hQp c l s h) rfl (fun s' K hK => ?_) rfl rfl (fun _ => hR) ?_
      · refine o_faddr' (ft := 3) (off := 3) rfl Try.underlying55 rfl tI3 (by decide) ?_
        exact hK
      try dsimp only [putL, setL, evL, getL]
      refine HK_one 15 (by kernel_rfl) rfl (fun _ => hR) rfl ?_
      refine o_stvH (vs := [.int .i64 (min (IntKind.i64.wrap ((IntKind.i64.wrap (u6 + 1)) * 4)) p0_0)]) (us' := [.int .i64 p0_0, .int .i64 p0_1, .slice A0_2p p0_2.length c0_2p, .int .i64 (min (IntKind.i64.wrap ((IntKind.i64.wrap (u6 + 1)) * 4)) p0_0), .int .i64 p0_4]) hH 0 rfl rfl rfl rfl rfl tI3 rfl (List.cons_ne_nil _ _) rfl rfl rfl ?_
      intro s7 hH'
      replace hH : Hp sb s F0 s7 [Ck.ov bp0 [.int .i64 p0_0, .int .i64 p0_1, .slice A0_2p p0_2.length c0_2p, .int .i64 (min (IntKind.i64.wrap ((IntKind.i64.wrap (u6 + 1)) * 4)) p0_0), .int .i64 p0_4] 55, Ck.ol OI 3 A0_2p c0_2p p0_2] := hH'
      clear hH'
      try dsimp only [putL, setL, evL, getL]
      refine HK_done' (by kernel_rfl) (by kernel_rfl) ?_
      obtain rfl := Option.some.inj (show some _ = some r from H)
      exact hQn _ _ [] trivial ⟨A0_2p, c0_2p, rfl, hH.sel [1, 0] (by decide)⟩
    · replace H := iteF hb5 H
      refine HT_false (congrArg Value.bool hb5) ?_
      refine HT_seq_k ?_
      intro K8 hK8
      refine HT_region ?_
      refine HL_cons rfl ?_
      refine o_move ?_
      try dsimp only [putL, setL, evL, getL]
      refine HL_cons rfl ?_
      refine o_bin rfl rfl rfl ?_
      try dsimp only [putL, setL, evL, getL]
      refine HL_cons rfl ?_
      refine o_assign ?_
      try dsimp only [putL, setL, evL, getL]
      refine HL_nil ?_
      refine hK8 _ _ ?_
      rcases Bool.eq_false_or_eq_true (p1 == 10) with hb9 | hb9
      · replace H := iteT hb9 H
        refine HT_true (congrArg Value.bool hb9) ?_
        refine HT_region ?_
        refine HL_cons rfl ?_
        refine o_move ?_
        try dsimp only [putL, setL, evL, getL]
        obtain ⟨u10, hu10, H⟩ := headE H
        obtain ⟨F1, hA, hB⟩ := hH.take [0, 1] (by decide)
        dsimp only [addC, setC, rmC, selC, getC] at hA
        refine HL_cons rfl ?_
        refine o_call (args := #[.pointer (some ⟨bp0, 0, none⟩)]) Try.func160 rfl rfl rfl (impl_Screen_down.ok sb s F1 bp0 p0_0 p0_1 A0_2p c0_2p p0_2 p0_3 p0_4 hA _ hu10) ?_
        rintro _ s10 ⟨A11, c11, rfl, hD⟩
        replace hH := hB _ _ _ (Up.refl _ _ _) hD
        clear hD hA hB
        dsimp only [addC, setC, rmC, selC, getC] at hH
        try dsimp only [putL, setL, evL, getL]
        refine HL_nil ?_
        obtain rfl := Option.some.inj (show some _ = some r from H)
        exact hQn _ _ [] trivial ⟨A11, c11, rfl, hH.sel [2, 3] (by decide)⟩
      · replace H := iteF hb9 H
        refine HT_false (congrArg Value.bool hb9) ?_
        refine HT_seq_k ?_
        intro K12 hK12
        refine HT_region ?_
        refine HL_cons rfl ?_
        refine o_move ?_
        try dsimp only [putL, setL, evL, getL]
        refine HL_cons rfl ?_
        refine o_bin rfl rfl rfl ?_
        try dsimp only [putL, setL, evL, getL]
        refine HL_cons rfl ?_
        refine o_assign ?_
        try dsimp only [putL, setL, evL, getL]
        refine HL_nil ?_
        refine hK12 _ _ ?_
        rcases Bool.eq_false_or_eq_true (p1 == 12) with hb13 | hb13
        · replace H := iteT hb13 H
          refine HT_true (congrArg Value.bool hb13) ?_
          refine HK_draw (fun s' => Gro s s') 11 hMix ?_
          have hR := Gro.refl s
          have hH0 := hH
          refine HK_readP 1 (v := .pointer (some ⟨bp0, 0, none⟩)) rfl (by kernel_rfl) (fun c l s h => hQp c l s h) rfl (fun s' K hK => ?_) rfl rfl (fun _ => hR) ?_
          · refine o_move ?_
            exact hK
          try dsimp only [putL, setL, evL, getL]
          refine HK_readP 2 (v := .pointer (some ⟨bp0, 0, none⟩)) rfl (by kernel_rfl) (fun c l s h => hQp c l s h) rfl (fun s' K hK => ?_) rfl rfl (fun _ => hR) ?_
          · refine o_nilck rfl ?_
            exact hK
          try dsimp only [putL, setL, evL, getL]
          refine HK_readP 3 (v := .pointer (some ⟨bp0, 0 + 0, none⟩)) rfl (by kernel_rfl) (fun c l s h => hQp c l s h) rfl (fun s' K hK => ?_) rfl rfl (fun _ => hR) ?_
          · refine o_faddr' (ft := 3) (off := 0) rfl Try.underlying55 rfl tI3 (by decide) ?_
            exact hK
          try dsimp only [putL, setL, evL, getL]
          refine HK_read 4 (v := .int .i64 p0_0) rfl (by kernel_rfl) (fun c l s h => hQp c l s h) rfl (fun s' hR' K hK => ?_) rfl rfl hR ?_
          · refine o_load' rfl Try.underlying3 rfl (has_gro hR' (hH0.hasv 0 rfl rfl)) ?_
            exact hK
          try dsimp only [putL, setL, evL, getL]
          refine HK_readP 5 (v := .pointer (some ⟨bp0, 0, none⟩)) rfl (by kernel_rfl) (fun c l s h => hQp c l s h) rfl (fun s' K hK => ?_) rfl rfl (fun _ => hR) ?_
          · refine o_move ?_
            exact hK
          try dsimp only [putL, setL, evL, getL]
          refine HK_readP 6 (v := .pointer (some ⟨bp0, 0, none⟩)) rfl (by kernel_rfl) (fun c l s h => hQp c l s h) rfl (fun s' K hK => ?_) rfl rfl (fun _ => hR) ?_
          · refine o_nilck rfl ?_
            exact hK
          try dsimp only [putL, setL, evL, getL]
          refine HK_readP 7 (v := .pointer (some ⟨bp0, 0 + 1, none⟩)) rfl (by kernel_rfl) (fun c l s h => hQp c l s h) rfl (fun s' K hK => ?_) rfl rfl (fun _ => hR) ?_
          · refine o_faddr' (ft := 3) (off := 1) rfl Try.underlying55 rfl tI3 (by decide) ?_
            exact hK
          try dsimp only [putL, setL, evL, getL]
          refine HK_read 8 (v := .int .i64 p0_1) rfl (by kernel_rfl) (fun c l s h => hQp c l s h) rfl (fun s' hR' K hK => ?_) rfl rfl hR ?_
          · refine o_load' rfl Try.underlying3 rfl (has_gro hR' (hH0.hasv 0 rfl rfl)) ?_
            exact hK
          try dsimp only [putL, setL, evL, getL]
          refine HK_readP 0 (v := .pointer (some ⟨bp0, 0, none⟩)) rfl (by kernel_rfl) (fun c l s h => hQp c l s h) rfl (fun s' K hK => ?_) rfl rfl (fun _ => hR) ?_
          · refine o_move ?_
            exact hK
          try dsimp only [putL, setL, evL, getL]
          obtain ⟨u14, hu14, H⟩ := headE H
          refine HK_one 9 (by kernel_rfl) rfl (fun _ => hR) rfl ?_
          refine o_call (args := #[.int .i64 p0_0, .int .i64 p0_1]) Try.func161 rfl rfl rfl (impl_newScreen.ok sb s no p0_0 p0_1 (Hp.own hH.bs) _ hu14) ?_
          rintro _ s14 ⟨A15, c15, rfl, hD⟩
          replace hR := hR.trans hD.gro
          replace hH := hH.back0 hD (Up.refl _ _ _)
          clear hD
          dsimp only [addC, setC, rmC, selC, getC] at hH
          try dsimp only [putL, setL, evL, getL]
          refine HK_readP 10 (v := .pointer (some ⟨bp0, 0, none⟩)) rfl (by kernel_rfl) (fun c l s h => hQp c l s h) rfl (fun s' K hK => ?_) rfl rfl (fun _ => hR) ?_
          · refine o_nilck rfl ?_
            exact hK
          try dsimp only [putL, setL, evL, getL]
          refine HK_one 11 (by kernel_rfl) rfl (fun _ => hR) rfl ?_
          refine o_stvH (vs := [.int .i64 u14.1, .int .i64 u14.2.1, .slice A15 u14.2.2.1.length c15, .int .i64 u14.2.2.2.1, .int .i64 u14.2.2.2.2]) (us' := [.int .i64 u14.1, .int .i64 u14.2.1, .slice A15 u14.2.2.1.length c15, .int .i64 u14.2.2.2.1, .int .i64 u14.2.2.2.2]) hH 0 rfl rfl rfl rfl rfl tI55 rfl (List.cons_ne_nil _ _) rfl rfl rfl ?_
          intro s16 hH'
          replace hH : Hp sb s F0 s16 [Ck.ov bp0 [.int .i64 u14.1, .int .i64 u14.2.1, .slice A15 u14.2.2.1.length c15, .int .i64 u14.2.2.2.1, .int .i64 u14.2.2.2.2] 55, Ck.ol OI 3 A0_2p c0_2p p0_2, Ck.ol OI 3 A15 c15 u14.2.2.1] := hH'
          clear hH'
          try dsimp only [putL, setL, evL, getL]
          refine HK_done' (by kernel_rfl) (by kernel_rfl) ?_
          obtain rfl := Option.some.inj (show some _ = some r from H)
          exact hQn _ _ [] trivial ⟨A15, c15, rfl, hH.sel [2, 0] (by decide)⟩
        · replace H := iteF hb13 H
          refine HT_false (congrArg Value.bool hb13) ?_
          refine HT_seq_k ?_
          intro K17 hK17
          refine HT_region ?_
          refine HL_cons rfl ?_
          refine o_move ?_
          try dsimp only [putL, setL, evL, getL]
          refine HL_cons rfl ?_
          refine o_bin rfl rfl rfl ?_
          try dsimp only [putL, setL, evL, getL]
          refine HL_cons rfl ?_
          refine o_assign ?_
          try dsimp only [putL, setL, evL, getL]
          refine HL_nil ?_
          refine hK17 _ _ ?_
          rcases Bool.eq_false_or_eq_true (p1 == 13) with hb18 | hb18
          · replace H := iteT hb18 H
            refine HT_true (congrArg Value.bool hb18) ?_
            refine HT_region ?_
            refine HL_cons rfl ?_
            refine o_move ?_
            try dsimp only [putL, setL, evL, getL]
            refine HL_cons rfl ?_
            refine o_nilck rfl ?_
            try dsimp only [putL, setL, evL, getL]
            refine HL_cons rfl ?_
            refine o_faddr' (ft := 3) (off := 3) rfl Try.underlying55 rfl tI3 (by decide) ?_
            try dsimp only [putL, setL, evL, getL]
            refine HL_cons rfl ?_
            refine o_stvH (vs := [.int .i64 0]) (us' := [.int .i64 p0_0, .int .i64 p0_1, .slice A0_2p p0_2.length c0_2p, .int .i64 0, .int .i64 p0_4]) hH 0 rfl rfl rfl rfl rfl tI3 rfl (List.cons_ne_nil _ _) rfl rfl rfl ?_
            intro s19 hH'
            replace hH : Hp sb s F0 s19 [Ck.ov bp0 [.int .i64 p0_0, .int .i64 p0_1, .slice A0_2p p0_2.length c0_2p, .int .i64 0, .int .i64 p0_4] 55, Ck.ol OI 3 A0_2p c0_2p p0_2] := hH'
            clear hH'
            try dsimp only [putL, setL, evL, getL]
            refine HL_nil ?_
            obtain rfl := Option.some.inj (show some _ = some r from H)
            exact hQn _ _ [] trivial ⟨A0_2p, c0_2p, rfl, hH.sel [1, 0] (by decide)⟩
          · replace H := iteF hb18 H
            refine HT_false (congrArg Value.bool hb18) ?_
            refine HT_seq_k ?_
            intro K20 hK20
            refine HT_region ?_
            refine HL_cons rfl ?_
            refine o_move ?_
            try dsimp only [putL, setL, evL, getL]
            refine HL_cons rfl ?_
            refine o_bin rfl rfl rfl ?_
            try dsimp only [putL, setL, evL, getL]
            refine HL_cons rfl ?_
            refine o_assign ?_
            try dsimp only [putL, setL, evL, getL]
            refine HL_nil ?_
            refine hK20 _ _ ?_
            rcases Bool.eq_false_or_eq_true (decide (p1 ≥ 32)) with hb21 | hb21
            · replace H := iteT hb21 H
              refine HT_true (congrArg Value.bool hb21) ?_
              refine joinH H fun G22 hG22 H => ?_
              refine HT_joinK (fun l' s' => ∃ (x27 : List (Int)) (A27 : Option Addr) (c27 : Nat) (x28 : Int) (x29 : Int), G22 (x27, x28, x29) = some r ∧ l' = [.pointer (some ⟨bp0, 0, none⟩), .int .i64 p1, undef, undef, .bool (p1 == 8), .int .i64 p1, .bool (p1 == 8), undef, undef, undef, undef, undef, undef, undef, undef, undef, .bool (p1 == 9), .int .i64 p1, .bool (p1 == 9), undef, undef, undef, undef, undef, undef, undef, undef, undef, undef, undef, undef, undef, undef, undef, .bool (p1 == 10), .int .i64 p1, .bool (p1 == 10), undef, undef, .bool (p1 == 12), .int .i64 p1, .bool (p1 == 12), undef, undef, undef, undef, undef, undef, undef, undef, undef, undef, undef, .bool (p1 == 13), .int .i64 p1, .bool (p1 == 13), undef, undef, undef, .bool (decide (p1 ≥ 32)), .int .i64 p1, .bool (decide (p1 ≥ 32)), getL l' 62, getL l' 63, getL l' 64, getL l' 65, getL l' 66, getL l' 67, getL l' 68, getL l' 69, getL l' 70, getL l' 71, getL l' 72, undef, undef, undef, undef, undef, undef, undef, undef, undef, undef, undef, undef, undef, undef, undef, undef, undef, undef, undef, undef, undef, undef, undef, undef, undef, undef, undef] ∧ Hp sb s F0 s' [Ck.ol OI 3 A27 c27 x27, Ck.ov bp0 [.int .i64 p0_0, .int .i64 p0_1, .slice A27 x27.length c27, .int .i64 x28, .int .i64 x29] 55]) ?_ ?_
              · intro K22 hK22
                refine HT_seq_k ?_
                intro K30 hK30
                refine HK_draw (fun s' => Gro s s') 10 hMix ?_
                have hR := Gro.refl s
                have hH0 := hH
                refine HK_readP 0 (v := .pointer (some ⟨bp0, 0, none⟩)) rfl (by kernel_rfl) (fun c l s h => hQp c l s h) rfl (fun s' K hK => ?_) rfl rfl (fun _ => hR) ?_
                · refine o_move ?_
                  exact hK
                try dsimp only [putL, setL, evL, getL]
                refine HK_readP 1 (v := .pointer (some ⟨bp0, 0, none⟩)) rfl (by kernel_rfl) (fun c l s h => hQp c l s h) rfl (fun s' K hK => ?_) rfl rfl (fun _ => hR) ?_
                · refine o_nilck rfl ?_
                  exact hK
                try dsimp only [putL, setL, evL, getL]
                refine HK_readP 2 (v := .pointer (some ⟨bp0, 0 + 3, none⟩)) rfl (by kernel_rfl) (fun c l s h => hQp c l s h) rfl (fun s' K hK => ?_) rfl rfl (fun _ => hR) ?_
                · refine o_faddr' (ft := 3) (off := 3) rfl Try.underlying55 rfl tI3 (by decide) ?_
                  exact hK
                try dsimp only [putL, setL, evL, getL]
                refine HK_read 3 (v := .int .i64 p0_3) rfl (by kernel_rfl) (fun c l s h => hQp c l s h) rfl (fun s' hR' K hK => ?_) rfl rfl hR ?_
                · refine o_load' rfl Try.underlying3 rfl (has_gro hR' (hH0.hasv 0 rfl rfl)) ?_
                  exact hK
                try dsimp only [putL, setL, evL, getL]
                refine HK_readP 4 (v := .pointer (some ⟨bp0, 0, none⟩)) rfl (by kernel_rfl) (fun c l s h => hQp c l s h) rfl (fun s' K hK => ?_) rfl rfl (fun _ => hR) ?_
                · refine o_move ?_
                  exact hK
                try dsimp only [putL, setL, evL, getL]
                refine HK_readP 5 (v := .pointer (some ⟨bp0, 0, none⟩)) rfl (by kernel_rfl) (fun c l s h => hQp c l s h) rfl (fun s' K hK => ?_) rfl rfl (fun _ => hR) ?_
                · refine o_nilck rfl ?_
                  exact hK
                try dsimp only [putL, setL, evL, getL]
                refine HK_readP 6 (v := .pointer (some ⟨bp0, 0 + 0, none⟩)) rfl (by kernel_rfl) (fun c l s h => hQp c l s h) rfl (fun s' K hK => ?_) rfl rfl (fun _ => hR) ?_
                · refine o_faddr' (ft := 3) (off := 0) rfl Try.underlying55 rfl tI3 (by decide) ?_
                  exact hK
                try dsimp only [putL, setL, evL, getL]
                refine HK_read 7 (v := .int .i64 p0_0) rfl (by kernel_rfl) (fun c l s h => hQp c l s h) rfl (fun s' hR' K hK => ?_) rfl rfl hR ?_
                · refine o_load' rfl Try.underlying3 rfl (has_gro hR' (hH0.hasv 0 rfl rfl)) ?_
                  exact hK
                try dsimp only [putL, setL, evL, getL]
                refine HK_readP 8 (v := .bool (p0_3 == p0_0)) rfl (by kernel_rfl) (fun c l s h => hQp c l s h) rfl (fun s' K hK => ?_) rfl rfl (fun _ => hR) ?_
                · refine o_bin rfl rfl rfl ?_
                  exact hK
                try dsimp only [putL, setL, evL, getL]
                refine HK_done (fun _ => hR) (by kernel_rfl) ?_
                refine hK30 _ _ ?_
                rcases Bool.eq_false_or_eq_true (p0_3 == p0_0) with hb31 | hb31
                · replace H := iteT hb31 H
                  refine HT_true (congrArg Value.bool hb31) ?_
                  refine HT_region ?_
                  refine HL_cons rfl ?_
                  refine o_move ?_
                  try dsimp only [putL, setL, evL, getL]
                  obtain ⟨u32, hu32, H⟩ := headE H
                  obtain ⟨F1, hA, hB⟩ := hH.take [0, 1] (by decide)
                  dsimp only [addC, setC, rmC, selC, getC] at hA
                  refine HL_cons rfl ?_
                  refine o_call (args := #[.pointer (some ⟨bp0, 0, none⟩)]) Try.func160 rfl rfl rfl (impl_Screen_down.ok sb s F1 bp0 p0_0 p0_1 A0_2p c0_2p p0_2 p0_3 p0_4 hA _ hu32) ?_
                  rintro _ s32 ⟨A33, c33, rfl, hD⟩
                  replace hH := hB _ _ _ (Up.refl _ _ _) hD
                  clear hD hA hB
                  dsimp only [addC, setC, rmC, selC, getC] at hH
                  try dsimp only [putL, setL, evL, getL]
                  refine HL_nil ?_
                  exact hK22 _ _ ⟨u32.1, A33, c33, u32.2.1, u32.2.2, H, rfl, hH.sel [2, 3] (by decide)⟩
                · replace H := iteF hb31 H
                  refine HT_false (congrArg Value.bool hb31) ?_
                  refine HT_skip ?_
                  exact hK22 _ _ ⟨p0_2, A0_2p, c0_2p, p0_3, p0_4, H, rfl, hH.sel [1, 0] (by decide)⟩
              · rintro l' s34 ⟨x27, A27, c27, x28, x29, H, hl, hH⟩
                generalize getL l' 62 = j62, getL l' 63 = j63, getL l' 64 = j64, getL l' 65 = j65, getL l' 66 = j66, getL l' 67 = j67, getL l' 68 = j68, getL l' 69 = j69, getL l' 70 = j70, getL l' 71 = j71, getL l' 72 = j72 at hl
                subst hl
                replace H := hG22 _ H
                try dsimp only at H
                refine HT_seq_k ?_
                intro K35 hK35
                refine HK_draw (fun s' => Gro s34 s') 20 hMix ?_
                have hR := Gro.refl s34
                have hH0 := hH
                refine HK_readP 18 (v := .int .i64 p1) rfl (by kernel_rfl) (fun c l s h => hQp c l s h) rfl (fun s' K hK => ?_) rfl rfl (fun _ => hR) ?_
                · refine o_move ?_
                  exact hK
                try dsimp only [putL, setL, evL, getL]
                refine HK_readP 0 (v := .pointer (some ⟨bp0, 0, none⟩)) rfl (by kernel_rfl) (fun c l s h => hQp c l s h) rfl (fun s' K hK => ?_) rfl rfl (fun _ => hR) ?_
                · refine o_move ?_
                  exact hK
                try dsimp only [putL, setL, evL, getL]
                refine HK_readP 1 (v := .pointer (some ⟨bp0, 0, none⟩)) rfl (by kernel_rfl) (fun c l s h => hQp c l s h) rfl (fun s' K hK => ?_) rfl rfl (fun _ => hR) ?_
                · refine o_nilck rfl ?_
                  exact hK
                try dsimp only [putL, setL, evL, getL]
                refine HK_readP 2 (v := .pointer (some ⟨bp0, 0 + 2, none⟩)) rfl (by kernel_rfl) (fun c l s h => hQp c l s h) rfl (fun s' K hK => ?_) rfl rfl (fun _ => hR) ?_
                · refine o_faddr' (ft := 22) (off := 2) rfl Try.underlying55 rfl tI22 (by decide) ?_
                  exact hK
                try dsimp only [putL, setL, evL, getL]
                refine HK_read 3 (v := .slice A27 x27.length c27) rfl (by kernel_rfl) (fun c l s h => hQp c l s h) rfl (fun s' hR' K hK => ?_) rfl rfl hR ?_
                · refine o_load' rfl Try.underlying22 rfl (has_gro hR' (hH0.hasv 1 rfl rfl)) ?_
                  exact hK
                try dsimp only [putL, setL, evL, getL]
                refine HK_readP 4 (v := .pointer (some ⟨bp0, 0, none⟩)) rfl (by kernel_rfl) (fun c l s h => hQp c l s h) rfl (fun s' K hK => ?_) rfl rfl (fun _ => hR) ?_
                · refine o_move ?_
                  exact hK
                try dsimp only [putL, setL, evL, getL]
                refine HK_readP 5 (v := .pointer (some ⟨bp0, 0, none⟩)) rfl (by kernel_rfl) (fun c l s h => hQp c l s h) rfl (fun s' K hK => ?_) rfl rfl (fun _ => hR) ?_
                · refine o_nilck rfl ?_
                  exact hK
                try dsimp only [putL, setL, evL, getL]
                refine HK_readP 6 (v := .pointer (some ⟨bp0, 0 + 4, none⟩)) rfl (by kernel_rfl) (fun c l s h => hQp c l s h) rfl (fun s' K hK => ?_) rfl rfl (fun _ => hR) ?_
                · refine o_faddr' (ft := 3) (off := 4) rfl Try.underlying55 rfl tI3 (by decide) ?_
                  exact hK
                try dsimp only [putL, setL, evL, getL]
                refine HK_read 7 (v := .int .i64 x29) rfl (by kernel_rfl) (fun c l s h => hQp c l s h) rfl (fun s' hR' K hK => ?_) rfl rfl hR ?_
                · refine o_load' rfl Try.underlying3 rfl (has_gro hR' (hH0.hasv 1 rfl rfl)) ?_
                  exact hK
                try dsimp only [putL, setL, evL, getL]
                refine HK_readP 8 (v := .pointer (some ⟨bp0, 0, none⟩)) rfl (by kernel_rfl) (fun c l s h => hQp c l s h) rfl (fun s' K hK => ?_) rfl rfl (fun _ => hR) ?_
                · refine o_move ?_
                  exact hK
                try dsimp only [putL, setL, evL, getL]
                refine HK_readP 9 (v := .pointer (some ⟨bp0, 0, none⟩)) rfl (by kernel_rfl) (fun c l s h => hQp c l s h) rfl (fun s' K hK => ?_) rfl rfl (fun _ => hR) ?_
                · refine o_nilck rfl ?_
                  exact hK
                try dsimp only [putL, setL, evL, getL]
                refine HK_readP 10 (v := .pointer (some ⟨bp0, 0 + 0, none⟩)) rfl (by kernel_rfl) (fun c l s h => hQp c l s h) rfl (fun s' K hK => ?_) rfl rfl (fun _ => hR) ?_
                · refine o_faddr' (ft := 3) (off := 0) rfl Try.underlying55 rfl tI3 (by decide) ?_
                  exact hK
                try dsimp only [putL, setL, evL, getL]
                refine HK_read 11 (v := .int .i64 p0_0) rfl (by kernel_rfl) (fun c l s h => hQp c l s h) rfl (fun s' hR' K hK => ?_) rfl rfl hR ?_
                · refine o_load' rfl Try.underlying3 rfl (has_gro hR' (hH0.hasv 1 rfl rfl)) ?_
                  exact hK
                try dsimp only [putL, setL, evL, getL]
                refine HK_readP 12 (v := .int .i64 (IntKind.i64.wrap (x29 * p0_0))) rfl (by kernel_rfl) (fun c l s h => hQp c l s h) rfl (fun s' K hK => ?_) rfl rfl (fun _ => hR) ?_
                · refine o_bin rfl rfl rfl ?_
                  exact hK
                try dsimp only [putL, setL, evL, getL]
                refine HK_readP 13 (v := .pointer (some ⟨bp0, 0, none⟩)) rfl (by kernel_rfl) (fun c l s h => hQp c l s h) rfl (fun s' K hK => ?_) rfl rfl (fun _ => hR) ?_
                · refine o_move ?_
                  exact hK
                try dsimp only [putL, setL, evL, getL]
                refine HK_readP 14 (v := .pointer (some ⟨bp0, 0, none⟩)) rfl (by kernel_rfl) (fun c l s h => hQp c l s h) rfl (fun s' K hK => ?_) rfl rfl (fun _ => hR) ?_
                · refine o_nilck rfl ?_
                  exact hK
                try dsimp only [putL, setL, evL, getL]
                refine HK_readP 15 (v := .pointer (some ⟨bp0, 0 + 3, none⟩)) rfl (by kernel_rfl) (fun c l s h => hQp c l s h) rfl (fun s' K hK => ?_) rfl rfl (fun _ => hR) ?_
                · refine o_faddr' (ft := 3) (off := 3) rfl Try.underlying55 rfl tI3 (by decide) ?_
                  exact hK
                try dsimp only [putL, setL, evL, getL]
                refine HK_read 16 (v := .int .i64 x28) rfl (by kernel_rfl) (fun c l s h => hQp c l s h) rfl (fun s' hR' K hK => ?_) rfl rfl hR ?_
                · refine o_load' rfl Try.underlying3 rfl (has_gro hR' (hH0.hasv 1 rfl rfl)) ?_
                  exact hK
                try dsimp only [putL, setL, evL, getL]
                refine HK_readP 17 (v := .int .i64 (IntKind.i64.wrap ((IntKind.i64.wrap (x29 * p0_0)) + x28))) rfl (by kernel_rfl) (fun c l s h => hQp c l s h) rfl (fun s' K hK => ?_) rfl rfl (fun _ => hR) ?_
                · refine o_bin rfl rfl rfl ?_
                  exact hK
                try dsimp only [putL, setL, evL, getL]
                obtain ⟨u36, hu36, H⟩ := headE H
                obtain ⟨b36, o36, cs36, hA36, hr36, hh36, hel36⟩ := hH0.elo 0 rfl hu36
                obtain rfl := hr36
                refine HK_readP 19 (v := .pointer (some ⟨b36, o36 + Int.toNat (IntKind.i64.wrap ((IntKind.i64.wrap (x29 * p0_0)) + x28)) * Kd.sz KI, none⟩)) rfl (by kernel_rfl) (fun c l s h => hQp c l s h) rfl (fun s' K hK => ?_) rfl rfl (fun _ => hR) ?_
                · refine hel36 s' rfl rfl Try.underlying22 tI3 ?_
                  exact hK
                try dsimp only [putL, setL, evL, getL]
                obtain ⟨x37, hx37, H⟩ := headE H
                refine HK_one 20 (by kernel_rfl) rfl (fun _ => hR) rfl ?_
                refine o_setF (vs := [.int .i64 p1]) (u := p1) hH 0 rfl rfl rfl rfl rfl tI3 hA36 hx37 (Ent.own (Ent.flat rfl)) ?_
                intro s37 hH'
                have hl37 := st?_len hx37
                replace hH : Hp sb s F0 s37 [Ck.ol OI 3 A27 c27 x37, Ck.ov bp0 [.int .i64 p0_0, .int .i64 p0_1, .slice A27 x27.length c27, .int .i64 x28, .int .i64 x29] 55] := hH'
                clear hH'
                try dsimp only [putL, setL, evL, getL]
                refine HK_done' (by kernel_rfl) (by kernel_rfl) ?_
                refine hK35 _ _ ?_
                refine HT_region ?_
                refine HL_cons rfl ?_
                refine o_move ?_
                try dsimp only [putL, setL, evL, getL]
                refine HL_cons rfl ?_
                refine o_nilck rfl ?_
                try dsimp only [putL, setL, evL, getL]
                refine HL_cons rfl ?_
                refine o_faddr' (ft := 3) (off := 3) rfl Try.underlying55 rfl tI3 (by decide) ?_
                try dsimp only [putL, setL, evL, getL]
                refine HL_cons rfl ?_
                refine o_load' rfl Try.underlying3 rfl (hH.hasv 1 rfl rfl) ?_
                try dsimp only [putL, setL, evL, getL]
                refine HL_cons rfl ?_
                refine o_bin rfl rfl rfl ?_
                try dsimp only [putL, setL, evL, getL]
                refine HL_cons rfl ?_
                refine o_nilck rfl ?_
                try dsimp only [putL, setL, evL, getL]
                refine HL_cons rfl ?_
                refine o_faddr' (ft := 3) (off := 3) rfl Try.underlying55 rfl tI3 (by decide) ?_
                try dsimp only [putL, setL, evL, getL]
                refine HL_cons rfl ?_
                refine o_stvH (vs := [.int .i64 (IntKind.i64.wrap (x28 + 1))]) (us' := [.int .i64 p0_0, .int .i64 p0_1, .slice A27 x27.length c27, .int .i64 (IntKind.i64.wrap (x28 + 1)), .int .i64 x29]) hH 1 rfl rfl rfl rfl rfl tI3 rfl (List.cons_ne_nil _ _) rfl rfl rfl ?_
                intro s38 hH'
                replace hH : Hp sb s F0 s38 [Ck.ol OI 3 A27 c27 x37, Ck.ov bp0 [.int .i64 p0_0, .int .i64 p0_1, .slice A27 x27.length c27, .int .i64 (IntKind.i64.wrap (x28 + 1)), .int .i64 x29] 55] := hH'
                clear hH'
                try dsimp only [putL, setL, evL, getL]
                refine HL_nil ?_
                replace hH : Hp sb s F0 s38 [Ck.ol OI 3 A27 c27 x37, Ck.ov bp0 [.int .i64 p0_0, .int .i64 p0_1, .slice A27 x37.length c27, .int .i64 (IntKind.i64.wrap (x28 + 1)), .int .i64 x29] 55] := by rw [hl37]; exact hH
                obtain rfl := Option.some.inj (show some _ = some r from H)
                exact hQn _ _ [] trivial ⟨A27, c27, rfl, hH⟩
            · replace H := iteF hb21 H
              refine HT_false (congrArg Value.bool hb21) ?_
              refine HT_skip ?_
              obtain rfl := Option.some.inj (show some _ = some r from H)
              exact hQn _ _ [] trivial ⟨A0_2p, c0_2p, rfl, hH.sel [1, 0] (by decide)⟩
def impl_PutRunes.l1 (p1 : List (Int)) : Nat → Int → Int → Int → (List (Int)) → Int → Int → Option (Int × Int × (List (Int)) × Int × Int)
  | 0, _, _, _, _, _, _ => none
  | kf + 1, x87, x88, x89, x90, x91, x92 => if (decide (x87 < (p1.length : Int))) = true then ((rd? p1 x87).bind fun u113 => (impl_Screen_put.f x88 x89 x90 x91 x92 u113).bind fun u114 => impl_PutRunes.l1 p1 kf (IntKind.i64.wrap (x87 + 1)) u114.1 u114.2.1 u114.2.2.1 u114.2.2.2.1 u114.2.2.2.2) else (some (x88, x89, x90, x91, x92))
def impl_PutRunes.f (p0_0 : Int) (p0_1 : Int) (p0_2 : List (Int)) (p0_3 : Int) (p0_4 : Int) (p1 : List (Int)) : Option (Int × Int × (List (Int)) × Int × Int × Bool) := ((impl_GoodScreen.f p0_0 p0_1 p0_2 p0_3 p0_4).bind fun u23 => if (!u23) = true then (some true) else ((impl_areRunes.f p1 1000).bind fun u25 => some (!u25))).bind fun (o : Bool) => match o with | x22 => (if x22 = true then (some (0, 0, [], 0, 0, false)) else ((slices_Clone_int_int.f p0_2).bind fun u31 => (impl_PutRunes.l1 p1 ((((p1.length : Int)) - (0)).toNat + 2) 0 p0_0 p0_1 u31 p0_3 p0_4).bind fun (o : Int × Int × (List (Int)) × Int × Int) => match o with | (x74, x75, x76, x77, x78) => (some (x74, x75, x76, x77, x78, true))))
def impl_PutRunes.post (sb s : St) (F0 : Fp) (r : Int × Int × (List (Int)) × Int × Int × Bool) : Value → St → Prop := fun v s' => ∃ (A2 : Option Addr) (c2 : Nat), v = .tuple #[.agg #[.int .i64 r.1, .int .i64 r.2.1, .slice A2 r.2.2.1.length c2, .int .i64 r.2.2.2.1, .int .i64 r.2.2.2.2.1], .bool r.2.2.2.2.2] ∧ Hp sb s F0 s' [Ck.ol OI 3 A2 c2 r.2.2.1]
set_option maxRecDepth 100000 in
set_option maxHeartbeats 4000000 in
theorem impl_PutRunes.ok (sb s : St) (F0 : Fp) (p0_0 : Int) (p0_1 : Int) (A0_2p : Option Addr) (c0_2p : Nat) (p0_2 : List (Int)) (p0_3 : Int) (p0_4 : Int) (A1p : Option Addr) (c1p : Nat) (p1 : List (Int)) (HRp0_2 : Rd KI sb A0_2p c0_2p p0_2) (HRp1 : Rd KI sb A1p c1p p1) (hH : Hp sb s F0 s []) (r : Int × Int × (List (Int)) × Int × Int × Bool) (H : impl_PutRunes.f p0_0 p0_1 p0_2 p0_3 p0_4 p1 = some r) : GCall Try.prog 79 #[.agg #[.int .i64 p0_0, .int .i64 p0_1, .slice A0_2p p0_2.length c0_2p, .int .i64 p0_3, .int .i64 p0_4], .slice A1p p1.length c1p] s (impl_PutRunes.post sb s F0 r) := by
  refine GCall_ofk [.cell 4 55, .tmp 5] [.agg #[.int .i64 p0_0, .int .i64 p0_1, .slice A0_2p p0_2.length c0_2p, .int .i64 p0_3, .int .i64 p0_4], .slice A1p p1.length c1p, undef, undef, undef, undef, undef, undef, undef, undef, undef, undef, undef, undef, undef, undef, undef, undef, undef, undef, undef, undef, undef, undef, undef, undef, undef, undef, undef, undef, undef] Try.func79 rfl rfl rfl ?_
  intro w Q hQr hQn hQp
  replace H := topE H
  unfold impl_PutRunes.f at H
  refine HT_seq_k ?_
  intro K1 hK1
  refine HT_region ?_
  refine HL_cons rfl ?_
  refine o_boxH hH rfl ?_
  intro b2 s2 hH' hG
  replace hH : Hp sb s F0 s2 [Ck.ov b2 [.int .i64 p0_0, .int .i64 p0_1, .slice A0_2p p0_2.length c0_2p, .int .i64 p0_3, .int .i64 p0_4] 55] := hH'
  clear hH' hG
  try dsimp only [putL, setL, evL, getL]
  refine HL_cons rfl ?_
  refine o_allocH hH tI55 ?_
  intro b3 s3 hH' hG
  replace hH : Hp sb s F0 s3 [Ck.ov b2 [.int .i64 p0_0, .int .i64 p0_1, .slice A0_2p p0_2.length c0_2p, .int .i64 p0_3, .int .i64 p0_4] 55, Ck.ov b3 [.int .i64 0, .int .i64 0, .slice none 0 0, .int .i64 0, .int .i64 0] 55] := hH'
  clear hH' hG
  try dsimp only [putL, setL, evL, getL]
  refine HL_cons rfl ?_
  refine o_assign ?_
  try dsimp only [putL, setL, evL, getL]
  refine HL_nil ?_
  refine hK1 _ _ ?_
  refine HT_seq_k ?_
  intro K17 hK17
  refine joinH H fun G18 hG18 H => ?_
  refine HT_joinK (fun l' s' => ∃ (x22 : Bool), G18 x22 = some r ∧ l' = [.agg #[.int .i64 p0_0, .int .i64 p0_1, .slice A0_2p p0_2.length c0_2p, .int .i64 p0_3, .int .i64 p0_4], .slice A1p p1.length c1p, .pointer (some ⟨b2, 0, none⟩), undef, .pointer (some ⟨b3, 0, none⟩), .bool false, undef, undef, getL l' 8, getL l' 9, getL l' 10, getL l' 11, getL l' 12, getL l' 13, getL l' 14, .bool x22, undef, undef, undef, undef, undef, undef, undef, undef, undef, undef, undef, undef, undef, undef, undef] ∧ Hp sb s F0 s' [Ck.ov b2 [.int .i64 p0_0, .int .i64 p0_1, .slice A0_2p p0_2.length c0_2p, .int .i64 p0_3, .int .i64 p0_4] 55, Ck.ov b3 [.int .i64 0, .int .i64 0, .slice none 0 0, .int .i64 0, .int .i64 0] 55]) ?_ ?_
  · intro K18 hK18
    refine HT_region ?_
    refine HL_cons rfl ?_
    refine o_loads' [.int .i64 p0_0, .int .i64 p0_1, .slice A0_2p p0_2.length c0_2p, .int .i64 p0_3, .int .i64 p0_4] rfl Try.underlying55 rfl tI55 rfl (hH.partv 0 rfl (0) [.int .i64 p0_0, .int .i64 p0_1, .slice A0_2p p0_2.length c0_2p, .int .i64 p0_3, .int .i64 p0_4] rfl) ?_
    try dsimp only [putL, setL, evL, getL]
    obtain ⟨u23, hu23, H⟩ := headE H
    refine HL_cons rfl ?_
    refine o_call (args := #[.agg #[.int .i64 p0_0, .int .i64 p0_1, .slice A0_2p p0_2.length c0_2p, .int .i64 p0_3, .int .i64 p0_4]]) Try.func104 rfl rfl rfl (impl_GoodScreen.ok sb s3 no p0_0 p0_1 A0_2p c0_2p p0_2 p0_3 p0_4 HRp0_2 (Hp.own hH.bs) _ hu23) ?_
    rintro _ s23 ⟨rfl, hD⟩
    replace hH := hH.back0 hD (Up.refl _ _ _)
    clear hD
    dsimp only [addC, setC, rmC, selC, getC] at hH
    try dsimp only [putL, setL, evL, getL]
    refine HL_cons rfl ?_
    refine o_not rfl ?_
    try dsimp only [putL, setL, evL, getL]
    refine HL_cons rfl ?_
    refine o_move ?_
    try dsimp only [putL, setL, evL, getL]
    rcases Bool.eq_false_or_eq_true (!u23) with hb24 | hb24
    · replace H := iteT hb24 H
      refine HL_skip ?_ ?_
      · exact wantF (j := 3) (b := false) (t := 11) (c := !u23) rfl rfl rfl rfl hb24
      try dsimp only [putL, setL, evL, getL]
      refine HL_skip ?_ ?_
      · exact wantF (j := 3) (b := false) (t := 11) (c := !u23) rfl rfl rfl rfl hb24
      try dsimp only [putL, setL, evL, getL]
      refine HL_skip ?_ ?_
      · exact wantF (j := 3) (b := false) (t := 11) (c := !u23) rfl rfl rfl rfl hb24
      try dsimp only [putL, setL, evL, getL]
      refine HL_cons rfl ?_
      refine o_pickT rfl hb24 ?_
      try dsimp only [putL, setL, evL, getL]
      refine HL_nil ?_
      exact hK18 _ _ ⟨true, H, rfl, hH⟩
    · replace H := iteF hb24 H
      refine HL_want ?_ ?_
      · exact wantT (j := 3) (b := false) (t := 11) (c := !u23) rfl rfl rfl rfl hb24
      refine o_move ?_
      try dsimp only [putL, setL, evL, getL]
      obtain ⟨u25, hu25, H⟩ := headE H
      refine HL_want ?_ ?_
      · exact wantT (j := 3) (b := false) (t := 11) (c := !u23) rfl rfl rfl rfl hb24
      refine o_call (args := #[.slice A1p p1.length c1p, .int .i64 1000]) Try.func113 rfl rfl rfl (impl_areRunes.ok sb s23 no A1p c1p p1 1000 HRp1 (Hp.own hH.bs) _ hu25) ?_
      rintro _ s25 ⟨rfl, hD⟩
      replace hH := hH.back0 hD (Up.refl _ _ _)
      clear hD
      dsimp only [addC, setC, rmC, selC, getC] at hH
      try dsimp only [putL, setL, evL, getL]
      refine HL_want ?_ ?_
      · exact wantT (j := 3) (b := false) (t := 11) (c := !u23) rfl rfl rfl rfl hb24
      refine o_not rfl ?_
      try dsimp only [putL, setL, evL, getL]
      refine HL_cons rfl ?_
      refine o_pickF rfl hb24 ?_
      try dsimp only [putL, setL, evL, getL]
      refine HL_nil ?_
      exact hK18 _ _ ⟨!u25, H, rfl, hH⟩
  · rintro l' s26 ⟨x22, H, hl, hH⟩
    generalize getL l' 8 = j8, getL l' 9 = j9, getL l' 10 = j10, getL l' 11 = j11, getL l' 12 = j12, getL l' 13 = j13, getL l' 14 = j14 at hl
    subst hl
    replace H := hG18 _ H
    try dsimp only at H
    rcases Bool.eq_false_or_eq_true x22 with hb27 | hb27
    · replace H := iteT hb27 H
      refine HT_true (congrArg Value.bool hb27) ?_
      refine HT_seq_k ?_
      intro K28 hK28
      refine HT_region ?_
      refine HL_cons rfl ?_
      refine o_build (pl := [(0, 1), (1, 1), (2, 1), (3, 1), (4, 1)]) (cs := #[.int .i64 0, .int .i64 0, .slice none 0 0, .int .i64 0, .int .i64 0]) Try.underlying55 tI55 (by kernel_rfl) (by kernel_rfl) rfl ?_
      try dsimp only [putL, setL, evL, getL]
      refine HL_cons rfl ?_
      refine o_stvH (vs := [.int .i64 0, .int .i64 0, .slice none 0 0, .int .i64 0, .int .i64 0]) (us' := [.int .i64 0, .int .i64 0, .slice none 0 0, .int .i64 0, .int .i64 0]) hH 1 rfl rfl rfl rfl rfl tI55 rfl (List.cons_ne_nil _ _) rfl rfl rfl ?_
      intro s29 hH'
      replace hH : Hp sb s F0 s29 [Ck.ov b2 [.int .i64 p0_0, .int .i64 p0_1, .slice A0_2p p0_2.length c0_2p, .int .i64 p0_3, .int .i64 p0_4] 55, Ck.ov b3 [.int .i64 0, .int .i64 0, .slice none 0 0, .int .i64 0, .int .i64 0] 55] := hH'
      clear hH'
      try dsimp only [putL, setL, evL, getL]
      refine HL_cons rfl ?_
      refine o_assign ?_
      try dsimp only [putL, setL, evL, getL]
      refine HL_nil ?_
      refine hK28 _ _ ?_
      refine HT_ret ?_
      obtain rfl := Option.some.inj (show some _ = some r from H)
      exact hQr _ _ [.agg #[.int .i64 0, .int .i64 0, .slice none 0 0, .int .i64 0, .int .i64 0], .bool false] ⟨ResV.cells rfl Try.underlying55 rfl tI55 (hH.var 1 rfl) rfl, rfl, trivial⟩ ⟨none, 0, rfl, (hH.nil (K := KI) OI 3).sel [2] (by decide)⟩
    · replace H := iteF hb27 H
      refine HT_false (congrArg Value.bool hb27) ?_
      refine HT_skip ?_
      refine hK17 _ _ ?_
      refine HT_seq_k ?_
      intro K30 hK30
      refine HT_region ?_
      refine HL_cons rfl ?_
      refine o_faddr' (ft := 22) (off := 2) rfl Try.underlying55 rfl tI22 (by decide) ?_
      try dsimp only [putL, setL, evL, getL]
      refine HL_cons rfl ?_
      refine o_load' rfl Try.underlying22 rfl (hH.hasv 0 rfl rfl) ?_
      try dsimp only [putL, setL, evL, getL]
      obtain ⟨u31, hu31, H⟩ := headE H
      refine HL_cons rfl ?_
      refine o_call (args := #[.slice A0_2p p0_2.length c0_2p]) Try.func94 rfl rfl rfl (slices_Clone_int_int.ok sb s26 no A0_2p c0_2p p0_2 HRp0_2 (Hp.own hH.bs) _ hu31) ?_
      rintro _ s31 ⟨A32, c32, rfl, hD⟩
      replace hH := hH.back0 hD (Up.refl _ _ _)
      clear hD
      dsimp only [addC, setC, rmC, selC, getC] at hH
      try dsimp only [putL, setL, evL, getL]
      refine HL_cons rfl ?_
      refine o_faddr' (ft := 22) (off := 2) rfl Try.underlying55 rfl tI22 (by decide) ?_
      try dsimp only [putL, setL, evL, getL]
      refine HL_cons rfl ?_
      refine o_stvH (vs := [.slice A32 u31.length c32]) (us' := [.int .i64 p0_0, .int .i64 p0_1, .slice A32 u31.length c32, .int .i64 p0_3, .int .i64 p0_4]) hH 0 rfl rfl rfl rfl rfl tI22 rfl (List.cons_ne_nil _ _) rfl rfl rfl ?_
      intro s33 hH'
      replace hH : Hp sb s F0 s33 [Ck.ov b2 [.int .i64 p0_0, .int .i64 p0_1, .slice A32 u31.length c32, .int .i64 p0_3, .int .i64 p0_4] 55, Ck.ov b3 [.int .i64 0, .int .i64 0, .slice none 0 0, .int .i64 0, .int .i64 0] 55, Ck.ol OI 3 A32 c32 u31] := hH'
      clear hH'
      try dsimp only [putL, setL, evL, getL]
      refine HL_nil ?_
      refine hK30 _ _ ?_
      refine HT_seq_k ?_
      intro K34 hK34
      refine HT_seq_k ?_
      intro K35 hK35
      refine HT_region ?_
      refine HL_cons rfl ?_
      refine o_move ?_
      try dsimp only [putL, setL, evL, getL]
      refine HL_cons rfl ?_
      refine o_len rfl Try.underlying22 ?_
      try dsimp only [putL, setL, evL, getL]
      refine HL_cons rfl ?_
      refine o_move ?_
      try dsimp only [putL, setL, evL, getL]
      refine HL_nil ?_
      refine hK35 _ _ ?_
      refine joinH H fun G36 hG36 H => ?_
      refine HT_toK (fun l' s' => ∃ (x74 : Int) (x75 : Int) (x76 : List (Int)) (A76 : Option Addr) (c76 : Nat) (x77 : Int) (x78 : Int), G36 (x74, x75, x76, x77, x78) = some r ∧ l' = [.agg #[.int .i64 p0_0, .int .i64 p0_1, .slice A0_2p p0_2.length c0_2p, .int .i64 p0_3, .int .i64 p0_4], .slice A1p p1.length c1p, .pointer (some ⟨b2, 0, none⟩), undef, .pointer (some ⟨b3, 0, none⟩), .bool false, undef, getL l' 7, j8, j9, j10, j11, j12, j13, j14, .bool x22, undef, .pointer (some ⟨b2, 0 + 2, none⟩), .slice A0_2p p0_2.length c0_2p, .slice A32 u31.length c32, .pointer (some ⟨b2, 0 + 2, none⟩), .slice A1p p1.length c1p, .int .i64 (p1.length : Int), getL l' 23, getL l' 24, getL l' 25, getL l' 26, getL l' 27, getL l' 28, getL l' 29, undef] ∧ Hp sb s F0 s' [Ck.ol OI 3 A76 c76 x76, Ck.ov b2 [.int .i64 x74, .int .i64 x75, .slice A76 x76.length c76, .int .i64 x77, .int .i64 x78] 55, Ck.ov b3 [.int .i64 0, .int .i64 0, .slice none 0 0, .int .i64 0, .int .i64 0] 55]) ?_ ?_
      · intro K36 hK36
        refine HT_block ?_
        refine HT_loopK (fun kf l' s' => ∃ (x87 : Int) (x88 : Int) (x89 : Int) (x90 : List (Int)) (A90 : Option Addr) (c90 : Nat) (x91 : Int) (x92 : Int), (impl_PutRunes.l1 p1 kf x87 x88 x89 x90 x91 x92).bind G36 = some r ∧ l' = [.agg #[.int .i64 p0_0, .int .i64 p0_1, .slice A0_2p p0_2.length c0_2p, .int .i64 p0_3, .int .i64 p0_4], .slice A1p p1.length c1p, .pointer (some ⟨b2, 0, none⟩), undef, .pointer (some ⟨b3, 0, none⟩), .bool false, undef, getL l' 7, j8, j9, j10, j11, j12, j13, j14, .bool x22, undef, .pointer (some ⟨b2, 0 + 2, none⟩), .slice A0_2p p0_2.length c0_2p, .slice A32 u31.length c32, .pointer (some ⟨b2, 0 + 2, none⟩), .slice A1p p1.length c1p, .int .i64 (p1.length : Int), .int .i64 x87, getL l' 24, getL l' 25, getL l' 26, getL l' 27, getL l' 28, getL l' 29, undef] ∧ Hp sb s F0 s' [Ck.ol OI 3 A90 c90 x90, Ck.ov b2 [.int .i64 x88, .int .i64 x89, .slice A90 x90.length c90, .int .i64 x91, .int .i64 x92] 55, Ck.ov b3 [.int .i64 0, .int .i64 0, .slice none 0 0, .int .i64 0, .int .i64 0] 55]) ((((p1.length : Int)) - (0)).toNat + 2) ⟨0, p0_0, p0_1, u31, A32, c32, p0_3, p0_4, H, rfl, hH.sel [2, 0, 1] (by decide)⟩ ?_
        rintro kf l' s107 ⟨x87, x88, x89, x90, A90, c90, x91, x92, H, hl, hH⟩ K107 hK107
        generalize getL l' 7 = j7, getL l' 24 = j24, getL l' 25 = j25, getL l' 26 = j26, getL l' 27 = j27, getL l' 28 = j28, getL l' 29 = j29 at hl
        subst hl
        cases kf with
        | zero => simp [impl_PutRunes.l1] at H
        | succ kf =>
          rw [impl_PutRunes.l1] at H
          refine HT_seq_k ?_
          intro K108 hK108
          refine HT_region ?_
          refine HL_cons rfl ?_
          refine o_bin rfl rfl rfl ?_
          try dsimp only [putL, setL, evL, getL]
          refine HL_nil ?_
          refine hK108 _ _ ?_
          refine HT_seq_k ?_
          intro K109 hK109
          rcases Bool.eq_false_or_eq_true (decide (x87 < (p1.length : Int))) with hb110 | hb110
          · replace H := iteT hb110 H
            refine HT_true (congrArg Value.bool hb110) ?_
            refine HT_skip ?_
            refine hK109 _ _ ?_
            refine HT_seq_k ?_
            intro K111 hK111
            refine HT_block ?_
            refine HT_seq_k ?_
            intro K112 hK112
            refine HT_region ?_
            obtain ⟨u113, hu113, H⟩ := headE H
            obtain ⟨b113, o113, cs113, hr113, hh113, hel113⟩ := Rd.elb HRp1 hu113
            obtain rfl := hr113
            refine HL_cons rfl ?_
            refine hel113 s107 rfl rfl Try.underlying22 tI3 ?_
            try dsimp only [putL, setL, evL, getL]
            refine HL_cons rfl ?_
            refine o_load' rfl Try.underlying3 rfl ((hh113 hH.bs.mono) 0 _ rfl) ?_
            try dsimp only [putL, setL, evL, getL]
            refine HL_cons rfl ?_
            refine o_assign ?_
            try dsimp only [putL, setL, evL, getL]
            refine HL_nil ?_
            refine hK112 _ _ ?_
            refine HT_region ?_
            refine HL_cons rfl ?_
            refine o_move ?_
            try dsimp only [putL, setL, evL, getL]
            obtain ⟨u114, hu114, H⟩ := headE H
            obtain ⟨F1, hA, hB⟩ := hH.take [1, 0] (by decide)
            dsimp only [addC, setC, rmC, selC, getC] at hA
            refine HL_cons rfl ?_
            refine o_call (args := #[.pointer (some ⟨b2, 0, none⟩), .int .i64 u113]) Try.func137 rfl rfl rfl (impl_Screen_put.ok sb s107 F1 b2 x88 x89 A90 c90 x90 x91 x92 u113 hA _ hu114) ?_
            rintro _ s114 ⟨A115, c115, rfl, hD⟩
            replace hH := hB _ _ _ (Up.refl _ _ _) hD
            clear hD hA hB
            dsimp only [addC, setC, rmC, selC, getC] at hH
            try dsimp only [putL, setL, evL, getL]
            refine HL_nil ?_
            refine hK111 _ _ ?_
            refine HT_region ?_
            refine HL_cons rfl ?_
            refine o_bin rfl rfl rfl ?_
            try dsimp only [putL, setL, evL, getL]
            refine HL_cons rfl ?_
            refine o_move ?_
            try dsimp only [putL, setL, evL, getL]
            refine HL_nil ?_
            exact hK107 _ _ ⟨kf, Nat.lt_succ_self kf, IntKind.i64.wrap (x87 + 1), u114.1, u114.2.1, u114.2.2.1, A115, c115, u114.2.2.2.1, u114.2.2.2.2, H, rfl, hH.sel [3, 4, 2] (by decide)⟩
          · replace H := iteF hb110 H
            refine HT_false (congrArg Value.bool hb110) ?_
            refine HT_exit ?_
            exact hK36 _ _ ⟨x88, x89, x90, A90, c90, x91, x92, H, rfl, hH⟩
      · rintro l' s116 ⟨x74, x75, x76, A76, c76, x77, x78, H, hl, hH⟩
        generalize getL l' 7 = j7, getL l' 23 = j23, getL l' 24 = j24, getL l' 25 = j25, getL l' 26 = j26, getL l' 27 = j27, getL l' 28 = j28, getL l' 29 = j29 at hl
        subst hl
        replace H := hG36 _ H
        try dsimp only at H
        refine hK34 _ _ ?_
        refine HT_seq_k ?_
        intro K117 hK117
        refine HT_region ?_
        refine HL_cons rfl ?_
        refine o_loads' [.int .i64 x74, .int .i64 x75, .slice A76 x76.length c76, .int .i64 x77, .int .i64 x78] rfl Try.underlying55 rfl tI55 rfl (hH.partv 1 rfl (0) [.int .i64 x74, .int .i64 x75, .slice A76 x76.length c76, .int .i64 x77, .int .i64 x78] rfl) ?_
        try dsimp only [putL, setL, evL, getL]
        refine HL_cons rfl ?_
        refine o_stvH (vs := [.int .i64 x74, .int .i64 x75, .slice A76 x76.length c76, .int .i64 x77, .int .i64 x78]) (us' := [.int .i64 x74, .int .i64 x75, .slice A76 x76.length c76, .int .i64 x77, .int .i64 x78]) hH 2 rfl rfl rfl rfl rfl tI55 rfl (List.cons_ne_nil _ _) rfl rfl rfl ?_
        intro s118 hH'
        replace hH : Hp sb s F0 s118 [Ck.ol OI 3 A76 c76 x76, Ck.ov b2 [.int .i64 x74, .int .i64 x75, .slice A76 x76.length c76, .int .i64 x77, .int .i64 x78] 55, Ck.ov b3 [.int .i64 x74, .int .i64 x75, .slice A76 x76.length c76, .int .i64 x77, .int .i64 x78] 55] := hH'
        clear hH'
        try dsimp only [putL, setL, evL, getL]
        refine HL_cons rfl ?_
        refine o_assign ?_
        try dsimp only [putL, setL, evL, getL]
        refine HL_nil ?_
        refine hK117 _ _ ?_
        refine HT_ret ?_
        obtain rfl := Option.some.inj (show some _ = some r from H)
        exact hQr _ _ [.agg #[.int .i64 x74, .int .i64 x75, .slice A76 x76.length c76, .int .i64 x77, .int .i64 x78], .bool true] ⟨ResV.cells rfl Try.underlying55 rfl tI55 (hH.var 2 rfl) rfl, rfl, trivial⟩ ⟨A76, c76, rfl, hH.sel [0] (by decide)⟩
def impl_PutRune.f (p0_0 : Int) (p0_1 : Int) (p0_2 : List (Int)) (p0_3 : Int) (p0_4 : Int) (p1 : Int) : Option (Int × Int × (List (Int)) × Int × Int × Bool) := (impl_PutRunes.f p0_0 p0_1 p0_2 p0_3 p0_4 [p1]).bind fun u6 => some (u6.1, u6.2.1, u6.2.2.1, u6.2.2.2.1, u6.2.2.2.2.1, u6.2.2.2.2.2)
def impl_PutRune.post (sb s : St) (F0 : Fp) (r : Int × Int × (List (Int)) × Int × Int × Bool) : Value → St → Prop := fun v s' => ∃ (A2 : Option Addr) (c2 : Nat), v = .tuple #[.agg #[.int .i64 r.1, .int .i64 r.2.1, .slice A2 r.2.2.1.length c2, .int .i64 r.2.2.2.1, .int .i64 r.2.2.2.2.1], .bool r.2.2.2.2.2] ∧ Hp sb s F0 s' [Ck.ol OI 3 A2 c2 r.2.2.1]
set_option maxRecDepth 100000 in
set_option maxHeartbeats 4000000 in
theorem impl_PutRune.ok (sb s : St) (F0 : Fp) (p0_0 : Int) (p0_1 : Int) (A0_2p : Option Addr) (c0_2p : Nat) (p0_2 : List (Int)) (p0_3 : Int) (p0_4 : Int) (p1 : Int) (HRp0_2 : Rd KI sb A0_2p c0_2p p0_2) (hH : Hp sb s F0 s []) (r : Int × Int × (List (Int)) × Int × Int × Bool) (H : impl_PutRune.f p0_0 p0_1 p0_2 p0_3 p0_4 p1 = some r) : GCall Try.prog 75 #[.agg #[.int .i64 p0_0, .int .i64 p0_1, .slice A0_2p p0_2.length c0_2p, .int .i64 p0_3, .int .i64 p0_4], .int .i64 p1] s (impl_PutRune.post sb s F0 r) := by
  refine GCall_ofk [.cell 4 55, .tmp 5] [.agg #[.int .i64 p0_0, .int .i64 p0_1, .slice A0_2p p0_2.length c0_2p, .int .i64 p0_3, .int .i64 p0_4], .int .i64 p1, undef, undef, undef, undef, undef, undef, undef, undef, undef, undef] Try.func75 rfl rfl rfl ?_
  intro w Q hQr hQn hQp
  replace H := topE H
  unfold impl_PutRune.f at H
  refine HT_seq_k ?_
  intro K1 hK1
  refine HT_region ?_
  refine HL_cons rfl ?_
  refine o_boxH hH rfl ?_
  intro b2 s2 hH' hG
  replace hH : Hp sb s F0 s2 [Ck.ov b2 [.int .i64 p0_0, .int .i64 p0_1, .slice A0_2p p0_2.length c0_2p, .int .i64 p0_3, .int .i64 p0_4] 55] := hH'
  clear hH' hG
  try dsimp only [putL, setL, evL, getL]
  refine HL_cons rfl ?_
  refine o_allocH hH tI55 ?_
  intro b3 s3 hH' hG
  replace hH : Hp sb s F0 s3 [Ck.ov b2 [.int .i64 p0_0, .int .i64 p0_1, .slice A0_2p p0_2.length c0_2p, .int .i64 p0_3, .int .i64 p0_4] 55, Ck.ov b3 [.int .i64 0, .int .i64 0, .slice none 0 0, .int .i64 0, .int .i64 0] 55] := hH'
  clear hH' hG
  try dsimp only [putL, setL, evL, getL]
  refine HL_cons rfl ?_
  refine o_assign ?_
  try dsimp only [putL, setL, evL, getL]
  refine HL_nil ?_
  refine hK1 _ _ ?_
  refine HT_seq_k ?_
  intro K4 hK4
  refine HT_region ?_
  refine HL_cons rfl ?_
  refine o_loads' [.int .i64 p0_0, .int .i64 p0_1, .slice A0_2p p0_2.length c0_2p, .int .i64 p0_3, .int .i64 p0_4] rfl Try.underlying55 rfl tI55 rfl (hH.partv 0 rfl (0) [.int .i64 p0_0, .int .i64 p0_1, .slice A0_2p p0_2.length c0_2p, .int .i64 p0_3, .int .i64 p0_4] rfl) ?_
  try dsimp only [putL, setL, evL, getL]
  refine HL_cons rfl ?_
  refine o_move ?_
  try dsimp only [putL, setL, evL, getL]
  refine HL_cons rfl ?_
  refine o_litF (K := KI) (O := OI) (ca := #[.int .i64 p1]) [[.int .i64 p1]] [p1] hH Try.underlying22 tI3 rfl (by decide) rfl rfl rfl rfl ⟨rfl, Ent.own (Ent.flat rfl), trivial⟩ ?_
  intro A5 s5 hH' hG
  replace hH : Hp sb s F0 s5 [Ck.ov b2 [.int .i64 p0_0, .int .i64 p0_1, .slice A0_2p p0_2.length c0_2p, .int .i64 p0_3, .int .i64 p0_4] 55, Ck.ov b3 [.int .i64 0, .int .i64 0, .slice none 0 0, .int .i64 0, .int .i64 0] 55, Ck.ol OI 3 A5 1 [p1]] := hH'
  clear hH' hG
  try dsimp only [putL, setL, evL, getL]
  obtain ⟨u6, hu6, H⟩ := headE H
  refine HL_cons rfl ?_
  refine o_call (args := #[.agg #[.int .i64 p0_0, .int .i64 p0_1, .slice A0_2p p0_2.length c0_2p, .int .i64 p0_3, .int .i64 p0_4], .slice A5 [p1].length 1]) Try.func79 rfl rfl rfl (impl_PutRunes.ok s5 s5 no p0_0 p0_1 A0_2p c0_2p p0_2 p0_3 p0_4 A5 1 [p1] (HRp0_2.mono hH.bs.mono) (hH.rd 2 rfl) (Hp.own (Bs.refl s5)) _ hu6) ?_
  rintro _ s6 ⟨A7, c7, rfl, hD⟩
  replace hH := hH.back0T hD
  clear hD
  dsimp only [addC, setC, rmC, selC, getC] at hH
  try dsimp only [putL, setL, evL, getL]
  refine HL_cons rfl ?_
  refine o_extract rfl rfl ?_
  try dsimp only [putL, setL, evL, getL]
  refine HL_cons rfl ?_
  refine o_extract rfl rfl ?_
  try dsimp only [putL, setL, evL, getL]
  refine HL_cons rfl ?_
  refine o_stvH (vs := [.int .i64 u6.1, .int .i64 u6.2.1, .slice A7 u6.2.2.1.length c7, .int .i64 u6.2.2.2.1, .int .i64 u6.2.2.2.2.1]) (us' := [.int .i64 u6.1, .int .i64 u6.2.1, .slice A7 u6.2.2.1.length c7, .int .i64 u6.2.2.2.1, .int .i64 u6.2.2.2.2.1]) hH 1 rfl rfl rfl rfl rfl tI55 rfl (List.cons_ne_nil _ _) rfl rfl rfl ?_
  intro s8 hH'
  replace hH : Hp sb s F0 s8 [Ck.ov b2 [.int .i64 p0_0, .int .i64 p0_1, .slice A0_2p p0_2.length c0_2p, .int .i64 p0_3, .int .i64 p0_4] 55, Ck.ov b3 [.int .i64 u6.1, .int .i64 u6.2.1, .slice A7 u6.2.2.1.length c7, .int .i64 u6.2.2.2.1, .int .i64 u6.2.2.2.2.1] 55, Ck.ol OI 3 A5 1 [p1], Ck.ol OI 3 A7 c7 u6.2.2.1] := hH'
  clear hH'
  try dsimp only [putL, setL, evL, getL]
  refine HL_cons rfl ?_
  refine o_assign ?_
  try dsimp only [putL, setL, evL, getL]
  refine HL_nil ?_
  refine hK4 _ _ ?_
  refine HT_ret ?_
  obtain rfl := Option.some.inj (show some _ = some r from H)
  exact hQr _ _ [.agg #[.int .i64 u6.1, .int .i64 u6.2.1, .slice A7 u6.2.2.1.length c7, .int .i64 u6.2.2.2.1, .int .i64 u6.2.2.2.2.1], .bool u6.2.2.2.2.2] ⟨ResV.cells rfl Try.underlying55 rfl tI55 (hH.var 1 rfl) rfl, rfl, trivial⟩ ⟨A7, c7, rfl, hH.sel [3] (by decide)⟩
def laws_eqIntS.l1 (p0 : List (Int)) (p1 : List (Int)) : Nat → Int → Option (Lo Unit Bool)
  | 0, _ => none
  | kf + 1, x48 => if (decide (x48 < (p0.length : Int))) = true then ((rd? p0 x48).bind fun u65 => (rd? p1 x48).bind fun u66 => if (u65 != u66) = true then ((some false).bind fun z => some (Lo.ret z)) else (laws_eqIntS.l1 p0 p1 kf (IntKind.i64.wrap (x48 + 1)))) else (some (Lo.go ()))
def laws_eqIntS.f (p0 : List (Int)) (p1 : List (Int)) : Option Bool := if ((p0.length : Int) != (p1.length : Int)) = true then (some false) else ((laws_eqIntS.l1 p0 p1 ((((p0.length : Int)) - (0)).toNat + 2) 0).bind fun (o : Lo Unit Bool) => match o with | .go () => (some true) | .ret z => some z)
def laws_eqIntS.post (sb s : St) (F0 : Fp) (r : Bool) : Value → St → Prop := fun v s' => v = .bool r ∧ Hp sb s F0 s' []
set_option maxRecDepth 100000 in
set_option maxHeartbeats 4000000 in
theorem laws_eqIntS.ok (sb s : St) (F0 : Fp) (A0p : Option Addr) (c0p : Nat) (p0 : List (Int)) (A1p : Option Addr) (c1p : Nat) (p1 : List (Int)) (HRp0 : Rd KI sb A0p c0p p0) (HRp1 : Rd KI sb A1p c1p p1) (hH : Hp sb s F0 s []) (r : Bool) (H : laws_eqIntS.f p0 p1 = some r) : GCall Try.prog 18 #[.slice A0p p0.length c0p, .slice A1p p1.length c1p] s (laws_eqIntS.post sb s F0 r) := by
  refine GCall_ofk [.tmp 4] [.slice A0p p0.length c0p, .slice A1p p1.length c1p, undef, undef, undef, undef, undef, undef, undef, undef, undef, undef, undef, undef, undef, undef, undef, undef, undef, undef, undef, undef, undef, undef, undef, undef] Try.func18 rfl rfl rfl ?_
  intro w Q hQr hQn hQp
  replace H := topE H
  unfold laws_eqIntS.f at H
  refine HT_seq_k ?_
  intro K1 hK1
  refine HT_region ?_
  refine HL_cons rfl ?_
  refine o_assign ?_
  try dsimp only [putL, setL, evL, getL]
  refine HL_nil ?_
  refine hK1 _ _ ?_
  refine HT_seq_k ?_
  intro K2 hK2
  refine HT_seq_k ?_
  intro K3 hK3
  refine HT_region ?_
  refine HL_cons rfl ?_
  refine o_move ?_
  try dsimp only [putL, setL, evL, getL]
  refine HL_cons rfl ?_
  refine o_len rfl Try.underlying22 ?_
  try dsimp only [putL, setL, evL, getL]
  refine HL_cons rfl ?_
  refine o_move ?_
  try dsimp only [putL, setL, evL, getL]
  refine HL_cons rfl ?_
  refine o_len rfl Try.underlying22 ?_
  try dsimp only [putL, setL, evL, getL]
  refine HL_cons rfl ?_
  refine o_bin rfl rfl rfl ?_
  try dsimp only [putL, setL, evL, getL]
  refine HL_nil ?_
  refine hK3 _ _ ?_
  rcases Bool.eq_false_or_eq_true ((p0.length : Int) != (p1.length : Int)) with hb4 | hb4
  · replace H := iteT hb4 H
    refine HT_true (congrArg Value.bool hb4) ?_
    refine HT_seq_k ?_
    intro K5 hK5
    refine HT_region ?_
    refine HL_cons rfl ?_
    refine o_assign ?_
    try dsimp only [putL, setL, evL, getL]
    refine HL_nil ?_
    refine hK5 _ _ ?_
    refine HT_ret ?_
    obtain rfl := Option.some.inj (show some _ = some r from H)
    exact hQr _ _ [.bool false] ⟨rfl, trivial⟩ ⟨rfl, hH⟩
  · replace H := iteF hb4 H
    refine HT_false (congrArg Value.bool hb4) ?_
    refine HT_skip ?_
    refine hK2 _ _ ?_
    refine HT_seq_k ?_
    intro K6 hK6
    refine HT_seq_k ?_
    intro K7 hK7
    refine HT_region ?_
    refine HL_cons rfl ?_
    refine o_assign ?_
    try dsimp only [putL, setL, evL, getL]
    refine HL_nil ?_
    refine hK7 _ _ ?_
    refine joinH H fun G8 hG8 H => ?_
    refine HT_toK (fun l' s' => G8 (.go ()) = some r ∧ l' = [.slice A0p p0.length c0p, .slice A1p p1.length c1p, undef, undef, getL l' 4, getL l' 5, .slice A0p p0.length c0p, .int .i64 (p0.length : Int), .slice A1p p1.length c1p, .int .i64 (p1.length : Int), .bool ((p0.length : Int) != (p1.length : Int)), getL l' 11, getL l' 12, getL l' 13, getL l' 14, getL l' 15, getL l' 16, getL l' 17, getL l' 18, getL l' 19, getL l' 20, getL l' 21, getL l' 22, getL l' 23, getL l' 24, getL l' 25] ∧ Hp sb s F0 s' []) ?_ ?_
    · intro K8 hK8
      refine HT_block ?_
      refine HT_loopK (fun kf l' s' => ∃ (x48 : Int), (laws_eqIntS.l1 p0 p1 kf x48).bind G8 = some r ∧ l' = [.slice A0p p0.length c0p, .slice A1p p1.length c1p, undef, undef, getL l' 4, .int .i64 x48, .slice A0p p0.length c0p, .int .i64 (p0.length : Int), .slice A1p p1.length c1p, .int .i64 (p1.length : Int), .bool ((p0.length : Int) != (p1.length : Int)), getL l' 11, getL l' 12, getL l' 13, getL l' 14, getL l' 15, getL l' 16, getL l' 17, getL l' 18, getL l' 19, getL l' 20, getL l' 21, getL l' 22, getL l' 23, getL l' 24, getL l' 25] ∧ Hp sb s F0 s' []) ((((p0.length : Int)) - (0)).toNat + 2) ⟨0, H, rfl, hH⟩ ?_
      rintro kf l' s59 ⟨x48, H, hl, hH⟩ K59 hK59
      generalize getL l' 4 = j4, getL l' 11 = j11, getL l' 12 = j12, getL l' 13 = j13, getL l' 14 = j14, getL l' 15 = j15, getL l' 16 = j16, getL l' 17 = j17, getL l' 18 = j18, getL l' 19 = j19, getL l' 20 = j20, getL l' 21 = j21, getL l' 22 = j22, getL l' 23 = j23, getL l' 24 = j24, getL l' 25 = j25 at hl
      subst hl
      cases kf with
      | zero => simp [laws_eqIntS.l1] at H
      | succ kf =>
        rw [laws_eqIntS.l1] at H
        refine HT_seq_k ?_
        intro K60 hK60
        refine HT_seq_k ?_
        intro K61 hK61
        refine HT_region ?_
        refine HL_cons rfl ?_
        refine o_move ?_
        try dsimp only [putL, setL, evL, getL]
        refine HL_cons rfl ?_
        refine o_move ?_
        try dsimp only [putL, setL, evL, getL]
        refine HL_cons rfl ?_
        refine o_len rfl Try.underlying22 ?_
        try dsimp only [putL, setL, evL, getL]
        refine HL_cons rfl ?_
        refine o_bin rfl rfl rfl ?_
        try dsimp only [putL, setL, evL, getL]
        refine HL_nil ?_
        refine hK61 _ _ ?_
        rcases Bool.eq_false_or_eq_true (decide (x48 < (p0.length : Int))) with hb62 | hb62
        · replace H := iteT hb62 H
          refine HT_true (congrArg Value.bool hb62) ?_
          refine HT_skip ?_
          refine hK60 _ _ ?_
          refine HT_seq_k ?_
          intro K63 hK63
          refine HT_block ?_
          refine HT_seq_k ?_
          intro K64 hK64
          refine HK_draw (fun s' => Gro s59 s') 10 hMix ?_
          have hR := Gro.refl s59
          have hH0 := hH
          refine HK_readP 0 (v := .slice A0p p0.length c0p) rfl (by kernel_rfl) (fun c l s h => hQp c l s h) rfl (fun s' K hK => ?_) rfl rfl (fun _ => hR) ?_
          · refine o_move ?_
            exact hK
          try dsimp only [putL, setL, evL, getL]
          refine HK_readP 1 (v := .int .i64 x48) rfl (by kernel_rfl) (fun c l s h => hQp c l s h) rfl (fun s' K hK => ?_) rfl rfl (fun _ => hR) ?_
          · refine o_move ?_
            exact hK
          try dsimp only [putL, setL, evL, getL]
          obtain ⟨u65, hu65, H⟩ := headE H
          obtain ⟨b65, o65, cs65, hr65, hh65, hel65⟩ := Rd.elb HRp0 hu65
          obtain rfl := hr65
          refine HK_readP 2 (v := .pointer (some ⟨b65, o65, none⟩)) rfl (by kernel_rfl) (fun c l s h => hQp c l s h) rfl (fun s' K hK => ?_) rfl rfl (fun _ => hR) ?_
          · refine hel65 s' rfl rfl Try.underlying22 tI3 ?_
            exact hK
          try dsimp only [putL, setL, evL, getL]
          refine HK_read 3 (v := .int .i64 u65) rfl (by kernel_rfl) (fun c l s h => hQp c l s h) rfl (fun s' hR' K hK => ?_) rfl rfl hR ?_
          · refine o_load' rfl Try.underlying3 rfl ((hh65 (hH0.bs.mono.trans hR'.mono)) 0 _ rfl) ?_
            exact hK
          try dsimp only [putL, setL, evL, getL]
          refine HK_readP 4 (v := .slice A1p p1.length c1p) rfl (by kernel_rfl) (fun c l s h => hQp c l s h) rfl (fun s' K hK => ?_) rfl rfl (fun _ => hR) ?_
          · refine o_move ?_
            exact hK
          try dsimp only [putL, setL, evL, getL]
          refine HK_readP 5 (v := .int .i64 x48) rfl (by kernel_rfl) (fun c l s h => hQp c l s h) rfl (fun s' K hK => ?_) rfl rfl (fun _ => hR) ?_
          · refine o_move ?_
            exact hK
          try dsimp only [putL, setL, evL, getL]
          obtain ⟨u66, hu66, H⟩ := headE H
          obtain ⟨b66, o66, cs66, hr66, hh66, hel66⟩ := Rd.elb HRp1 hu66
          obtain rfl := hr66
          refine HK_readP 6 (v := .pointer (some ⟨b66, o66, none⟩)) rfl (by kernel_rfl) (fun c l s h => hQp c l s h) rfl (fun s' K hK => ?_) rfl rfl (fun _ => hR) ?_
          · refine hel66 s' rfl rfl Try.underlying22 tI3 ?_
            exact hK
          try dsimp only [putL, setL, evL, getL]
          refine HK_read 7 (v := .int .i64 u66) rfl (by kernel_rfl) (fun c l s h => hQp c l s h) rfl (fun s' hR' K hK => ?_) rfl rfl hR ?_
          · refine o_load' rfl Try.underlying3 rfl ((hh66 (hH0.bs.mono.trans hR'.mono)) 0 _ rfl) ?_
            exact hK
          try dsimp only [putL, setL, evL, getL]
          refine HK_readP 8 (v := .bool (u65 != u66)) rfl (by kernel_rfl) (fun c l s h => hQp c l s h) rfl (fun s' K hK => ?_) rfl rfl (fun _ => hR) ?_
          · refine o_bin rfl rfl rfl ?_
            exact hK
          try dsimp only [putL, setL, evL, getL]
          refine HK_done (fun _ => hR) (by kernel_rfl) ?_
          refine hK64 _ _ ?_
          rcases Bool.eq_false_or_eq_true (u65 != u66) with hb67 | hb67
          · replace H := iteT hb67 H
            refine HT_true (congrArg Value.bool hb67) ?_
            refine HT_seq_k ?_
            intro K68 hK68
            refine HT_region ?_
            refine HL_cons rfl ?_
            refine o_assign ?_
            try dsimp only [putL, setL, evL, getL]
            refine HL_nil ?_
            refine hK68 _ _ ?_
            refine HT_ret ?_
            replace H := escH (fun z hz => hG8 _ hz) H
            obtain rfl := Option.some.inj (show some _ = some r from H)
            exact hQr _ _ [.bool false] ⟨rfl, trivial⟩ ⟨rfl, hH⟩
          · replace H := iteF hb67 H
            refine HT_false (congrArg Value.bool hb67) ?_
            refine HT_skip ?_
            refine hK63 _ _ ?_
            refine HT_region ?_
            refine HL_cons rfl ?_
            refine o_move ?_
            try dsimp only [putL, setL, evL, getL]
            refine HL_cons rfl ?_
            refine o_bin rfl rfl rfl ?_
            try dsimp only [putL, setL, evL, getL]
            refine HL_cons rfl ?_
            refine o_assign ?_
            try dsimp only [putL, setL, evL, getL]
            refine HL_nil ?_
            exact hK59 _ _ ⟨kf, Nat.lt_succ_self kf, IntKind.i64.wrap (x48 + 1), H, rfl, hH⟩
        · replace H := iteF hb62 H
          refine HT_false (congrArg Value.bool hb62) ?_
          refine HT_exit ?_
          exact hK8 _ _ ⟨H, rfl, hH⟩
    · rintro l' s69 ⟨H, hl, hH⟩
      generalize getL l' 4 = j4, getL l' 5 = j5, getL l' 11 = j11, getL l' 12 = j12, getL l' 13 = j13, getL l' 14 = j14, getL l' 15 = j15, getL l' 16 = j16, getL l' 17 = j17, getL l' 18 = j18, getL l' 19 = j19, getL l' 20 = j20, getL l' 21 = j21, getL l' 22 = j22, getL l' 23 = j23, getL l' 24 = j24, getL l' 25 = j25 at hl
      subst hl
      replace H := hG8 _ H
      try dsimp only at H
      refine hK6 _ _ ?_
      refine HT_seq_k ?_
      intro K70 hK70
      refine HT_region ?_
      refine HL_cons rfl ?_
      refine o_assign ?_
      try dsimp only [putL, setL, evL, getL]
      refine HL_nil ?_
      refine hK70 _ _ ?_
      refine HT_ret ?_
      obtain rfl := Option.some.inj (show some _ = some r from H)
      exact hQr _ _ [.bool true] ⟨rfl, trivial⟩ ⟨rfl, hH⟩
end Go.Proofs.Ytopecknfnhocpaa
