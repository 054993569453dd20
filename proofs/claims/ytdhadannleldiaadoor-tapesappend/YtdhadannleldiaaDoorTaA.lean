/- Tapes: bytes and operations, as data; what plain data make of operations. -/
import Derived.Test.YtdhadannleldiaaDoorGpShCall
import Derived.Test.YtdhadannleldiaaDoorTaT
import Derived.Test.YtdhadannleldiaaDoorTaCrc
import Derived.Test.YtdhadannleldiaaDoorTaS1
import Derived.Test.YtdhadannleldiaaDoorTaS2
import Derived.Test.YtdhadannleldiaaDoorTaS3
import Derived.Test.YtdhadannleldiaaDoorTaS4
namespace Go.Proofs.YtdhadannleldiaaDoor
open Go.Gh
set_option linter.unusedVariables false
set_option linter.unusedSimpArgs false

/-- The handle by which functions call. -/
noncomputable def C (k : Nat) : Handle := gCallC Tryd.prog fnT clo k
theorem C_func {k f : Nat} {fn : Func} {args : List Value} {H : GH} (h : fnT f = some fn) : C (k + 1) (.func (.func f) #[] #[]) args H = gFunc Tryd.prog (C k) k fn args H := by
  show (match fnT f with | some fn => gFunc Tryd.prog (C k) k fn (#[].toList ++ args ++ #[].toList) H | none => _) = _
  rw [h]
  simp
theorem C_clos {k f : Nat} {fn : Func} {cs : Array Value} {args : List Value} {H : GH} (h : fnT f = some fn) : C (k + 1) (.func (.func f) #[] cs) args H = gFunc Tryd.prog (C k) k fn (args ++ cs.toList) H := by
  show (match fnT f with | some fn => gFunc Tryd.prog (C k) k fn (#[].toList ++ args ++ cs.toList) H | none => _) = _
  rw [h]
  simp
theorem C_yield {k L : Nat} {args : List Value} {H : GH} {tmps : List Value} {ps : List Tmp} {asg bd : Code} (h : H.get L = some (.loop .ready none tmps ps asg bd)) (hl : args.length = ps.length) :
    C (k + 1) (.func (.yield L) #[] #[]) args H = gCode Tryd.prog (C k) k asg (gAssign ps args tmps) H (hBegin Tryd.prog (C k) k L bd) := by
  show gRound Tryd.prog (C k) k L args H = _
  unfold gRound
  rw [h]
  simp only [if_pos hl]
open Classical in
theorem C_none {k f : Nat} {v : Value} {H : GH} (h : fnT f = none) (hc : clo f = some v) (hg : GlIn H) : C (k + 1) (.func (.func f) #[] #[]) [] H = some [(v, H)] := by
  show (match fnT f with | some fn => _ | none => match clo f, (#[].toList ++ [] ++ #[].toList : List Value) with | some v, [] => if GlIn H then some [(v, H)] else none | _, _ => none) = _
  rw [h, hc]
  exact if_pos hg
theorem GlIn.ext {H H' : GH} (h : GlIn H) (hE : Ext H H') : GlIn H' := fun g hg => hE.get_of (h g hg)

/-- Bytes. -/
def tyB : Ty Nat where
  sz := 1
  rep _ cs x := cs = [.int .u8 (x : Int)]
  len h := by subst h; rfl
  one h := by subst h; rfl
  mono _ h := h
/-- An operation. -/
structure OpD where
  kd : Int
  dr : Int
  bd : Int
  at' : Int
  yn : Int
  rk : Int
def opC (o : OpD) : List Value := [.int .u8 o.kd, .int .u8 o.dr, .int .u8 o.bd, .int .i64 o.at', .int .u8 o.yn, .int .i64 o.rk]
def opV (o : OpD) : Value := .agg #[.int .u8 o.kd, .int .u8 o.dr, .int .u8 o.bd, .int .i64 o.at', .int .u8 o.yn, .int .i64 o.rk]
def tyOp : Ty OpD where
  sz := 6
  rep _ cs x := cs = opC x
  len h := by subst h; rfl
  one h := by subst h; rfl
  mono _ h := h
/-- An operation as plain data. -/
structure OD where
  a : Int
  b : Int
  c : Int
  d : Int
  e : Int
  f : Int
def oC (o : OD) : List Value := [.int .u8 o.a, .int .u8 o.b, .int .u8 o.c, .int .u8 o.d, .int .u8 o.e, .int .u8 o.f]
def oV (o : OD) : Value := .agg #[.int .u8 o.a, .int .u8 o.b, .int .u8 o.c, .int .u8 o.d, .int .u8 o.e, .int .u8 o.f]
def tyO : Ty OD where
  sz := 6
  rep _ cs x := cs = oC x
  len h := by subst h; rfl
  one h := by subst h; rfl
  mono _ h := h
def OD.ok (x : OD) : Prop := 0 ≤ x.a ∧ 0 ≤ x.b ∧ 0 ≤ x.c ∧ 0 ≤ x.d ∧ 0 ≤ x.e ∧ 0 ≤ x.f
def OpOk (o : OpD) : Prop :=
  (o.kd = 1 ∧ (0 ≤ o.dr ∧ o.dr ≤ 1) ∧ o.bd = 0 ∧ o.at' = 0 ∧ (1 ≤ o.yn ∧ o.yn ≤ 6) ∧ o.rk = 0) ∨
  (o.kd = 2 ∧ o.dr = 0 ∧ o.bd = 0 ∧ o.at' = 0 ∧ (1 ≤ o.yn ∧ o.yn ≤ 6) ∧ o.rk = 0) ∨
  (o.kd = 3 ∧ o.dr = 0 ∧ o.bd = 0 ∧ o.at' = 0 ∧ o.yn = 0 ∧ (-4 ≤ o.rk ∧ o.rk ≤ 4)) ∨
  ((4 ≤ o.kd ∧ o.kd ≤ 6) ∧ (0 ≤ o.dr ∧ o.dr ≤ 1) ∧ (0 ≤ o.bd ∧ o.bd ≤ 1) ∧ (1 ≤ o.at' ∧ o.at' ≤ 40) ∧ (1 ≤ o.yn ∧ o.yn ≤ 6) ∧ o.rk = 0) ∨
  ((o.kd = 7 ∨ o.kd = 8) ∧ o.dr = 0 ∧ (0 ≤ o.bd ∧ o.bd ≤ 1) ∧ (1 ≤ o.at' ∧ o.at' ≤ 40) ∧ o.yn = 0 ∧ o.rk = 0)
theorem flat_b : tyB.Flat := fun _ _ _ _ h => h
theorem flat_op : tyOp.Flat := fun _ _ _ _ h => h
theorem flat_o : tyO.Flat := fun _ _ _ _ h => h
theorem gets_b : tyB.Gets := fun _ _ _ _ _ h => h
theorem gets_op : tyOp.Gets := fun _ _ _ _ _ h => h
theorem ld3 : ldOk Tryd.prog 3 false 1 = true := by kernel_rfl
theorem ld4 : ldOk Tryd.prog 4 false 1 = true := by kernel_rfl
theorem ld5 : ldOk Tryd.prog 5 false 1 = true := by kernel_rfl
theorem ld24 : ldOk Tryd.prog 24 false 1 = true := by kernel_rfl
theorem ld26 : ldOk Tryd.prog 26 false 1 = true := by kernel_rfl
theorem ld28 : ldOk Tryd.prog 28 false 1 = true := by kernel_rfl
theorem ld42 : ldOk Tryd.prog 42 false 1 = true := by kernel_rfl
theorem ld43 : ldOk Tryd.prog 43 false 1 = true := by kernel_rfl
theorem ld44 : ldOk Tryd.prog 44 false 1 = true := by kernel_rfl
theorem ld46 : ldOk Tryd.prog 46 true 2 = true := by kernel_rfl
theorem ld48 : ldOk Tryd.prog 48 true 6 = true := by kernel_rfl
theorem ld52 : ldOk Tryd.prog 52 true 6 = true := by kernel_rfl
theorem ld55 : ldOk Tryd.prog 55 true 4 = true := by kernel_rfl
theorem el3 : elemOk Tryd.prog 3 1 = true := by kernel_rfl
theorem el5 : elemOk Tryd.prog 5 1 = true := by kernel_rfl
theorem el24 : elemOk Tryd.prog 24 1 = true := by kernel_rfl
theorem el48 : elemOk Tryd.prog 48 6 = true := by kernel_rfl
theorem el52 : elemOk Tryd.prog 52 6 = true := by kernel_rfl
theorem u23 : Tryd.prog.underlying 23 = some (.slice 52) := Tryd.underlying23
theorem u24 : Tryd.prog.underlying 24 = some (.slice 5) := Tryd.underlying24
theorem u26 : Tryd.prog.underlying 26 = some (.slice 48) := Tryd.underlying26
theorem u31 : Tryd.prog.underlying 31 = some (.slice 24) := Tryd.underlying31
theorem u68 : Tryd.prog.underlying 68 = some (.slice 3) := Tryd.underlying68
section
variable {b : Nat}
theorem fa48_0 : oFieldAddr Tryd.prog 48 (.pointer (some ⟨b, 0, none⟩)) 0 = some (.pointer (some ⟨b, 0, none⟩)) := by kernel_rfl
theorem fa48_1 : oFieldAddr Tryd.prog 48 (.pointer (some ⟨b, 0, none⟩)) 1 = some (.pointer (some ⟨b, 1, none⟩)) := by kernel_rfl
theorem fa48_2 : oFieldAddr Tryd.prog 48 (.pointer (some ⟨b, 0, none⟩)) 2 = some (.pointer (some ⟨b, 2, none⟩)) := by kernel_rfl
theorem fa48_3 : oFieldAddr Tryd.prog 48 (.pointer (some ⟨b, 0, none⟩)) 3 = some (.pointer (some ⟨b, 4, none⟩)) := by kernel_rfl
theorem fa48_4 : oFieldAddr Tryd.prog 48 (.pointer (some ⟨b, 0, none⟩)) 4 = some (.pointer (some ⟨b, 5, none⟩)) := by kernel_rfl
theorem fa46_0 : oFieldAddr Tryd.prog 46 (.pointer (some ⟨b, 2, none⟩)) 0 = some (.pointer (some ⟨b, 2, none⟩)) := by kernel_rfl
theorem fa46_1 : oFieldAddr Tryd.prog 46 (.pointer (some ⟨b, 2, none⟩)) 1 = some (.pointer (some ⟨b, 3, none⟩)) := by kernel_rfl
theorem fa52_1 : oFieldAddr Tryd.prog 52 (.pointer (some ⟨b, 0, none⟩)) 1 = some (.pointer (some ⟨b, 1, none⟩)) := by kernel_rfl
theorem fa52_2 : oFieldAddr Tryd.prog 52 (.pointer (some ⟨b, 0, none⟩)) 2 = some (.pointer (some ⟨b, 2, none⟩)) := by kernel_rfl
theorem fa52_3 : oFieldAddr Tryd.prog 52 (.pointer (some ⟨b, 0, none⟩)) 3 = some (.pointer (some ⟨b, 3, none⟩)) := by kernel_rfl
theorem fa52_4 : oFieldAddr Tryd.prog 52 (.pointer (some ⟨b, 0, none⟩)) 4 = some (.pointer (some ⟨b, 4, none⟩)) := by kernel_rfl
theorem fa52_5 : oFieldAddr Tryd.prog 52 (.pointer (some ⟨b, 0, none⟩)) 5 = some (.pointer (some ⟨b, 5, none⟩)) := by kernel_rfl
theorem fa55_0 : oFieldAddr Tryd.prog 55 (.pointer (some ⟨b, 0, none⟩)) 0 = some (.pointer (some ⟨b, 0, none⟩)) := by kernel_rfl
theorem fa55_1 : oFieldAddr Tryd.prog 55 (.pointer (some ⟨b, 0, none⟩)) 1 = some (.pointer (some ⟨b, 1, none⟩)) := by kernel_rfl
theorem fa55_2 : oFieldAddr Tryd.prog 55 (.pointer (some ⟨b, 0, none⟩)) 2 = some (.pointer (some ⟨b, 2, none⟩)) := by kernel_rfl
theorem fa55_3 : oFieldAddr Tryd.prog 55 (.pointer (some ⟨b, 0, none⟩)) 3 = some (.pointer (some ⟨b, 3, none⟩)) := by kernel_rfl
/-- One cell of a row. -/
theorem ldc {H : GH} {row : List Value} {e o t : Nat} {ro : Bool} {v : Value} (h : H.get b = some (.row row e ro)) (ht : ldOk Tryd.prog t false 1 = true) (hv : row[o]? = some v) : gLoad Tryd.prog t (.pointer (some ⟨b, o, none⟩)) H = some v := by
  have hlt := (List.getElem?_eq_some_iff.1 hv).1
  refine PtC.load1 (P := Tryd.prog) (t := t) ⟨b, o, row, e, ro, rfl, h, by simp only [List.length_singleton]; omega, ?_⟩ ht
  rw [List.drop_eq_getElem_cons hlt, List.length_singleton, List.take_succ_cons, List.take_zero, (List.getElem?_eq_some_iff.1 hv).2]
end
theorem gResL1 {P : Program} {t : TypeId} {p : Value} {H : GH} : gResL P H [(p, some t)] = gLoad P t p H := by
  unfold gResL
  simp only [List.mapM_cons, List.mapM_nil, gRes1]
  cases gLoad P t p H <;> rfl
theorem rem8 {a : Int} : (oBin Tryd.prog .rem 5 (.int .u8 a) (.int .u8 8)).filter closed = some (.int .u8 (a.tmod 8)) := by kernel_rfl
theorem rem2 {a : Int} : (oBin Tryd.prog .rem 5 (.int .u8 a) (.int .u8 2)).filter closed = some (.int .u8 (a.tmod 2)) := by kernel_rfl
theorem rem6 {a : Int} : (oBin Tryd.prog .rem 5 (.int .u8 a) (.int .u8 6)).filter closed = some (.int .u8 (a.tmod 6)) := by kernel_rfl
theorem rem9 {a : Int} : (oBin Tryd.prog .rem 5 (.int .u8 a) (.int .u8 9)).filter closed = some (.int .u8 (a.tmod 9)) := by kernel_rfl
theorem rem40 {a : Int} : (oBin Tryd.prog .rem 5 (.int .u8 a) (.int .u8 40)).filter closed = some (.int .u8 (a.tmod 40)) := by kernel_rfl
theorem conv5_3 (i : Int) : (oConvert Tryd.prog 5 3 (.int .u8 i)).filter closed = some (.int .i64 (IntKind.wrap .i64 i)) := by kernel_rfl
theorem rm {a m : Int} (ha : 0 ≤ a) (hm : 0 < m) : 0 ≤ a.tmod m ∧ a.tmod m < m := by
  rw [Int.tmod_eq_emod_of_nonneg ha]
  exact ⟨Int.emod_nonneg a (by omega), Int.emod_lt_of_pos a hm⟩
section
variable {β : Type} {m : M β} {k k' : IntKind} {a c : Int}
theorem onSame_i : onSame (some (.int k a)) (some (.int k a)) m = m := by simp [onSame, sameV, same1]
theorem onSame_a : onSame (some (.agg #[.int k a, .int k' c])) (some (.agg #[.int k a, .int k' c])) m = m := by simp [onSame, sameV, same1]
theorem onClosed_i : onClosed true (.int k a) m = m := rfl
theorem onClosed_a : onClosed true (.agg #[.int k a, .int k' c]) m = m := rfl
end
theorem build48 (a : Int) : oBuild Tryd.prog 48 [(0, .int .u8 a)] = some (opV ⟨a, 0, 0, 0, 0, 0⟩) := by kernel_rfl
theorem build46 (a c : Int) : oBuild Tryd.prog 46 [(0, .int .u8 a), (1, .int .i64 c)] = some (.agg #[.int .u8 a, .int .i64 c]) := by kernel_rfl
/-- A needle is stored into an operation. -/
theorem store46 {H : GH} {b : Nat} {c0 c1 c2 c3 c4 c5 : Value} {e : TypeId} {x y : Int} (h : H.get b = some (.row [c0, c1, c2, c3, c4, c5] e false)) :
    gStore Tryd.prog 46 (.pointer (some ⟨b, 2, none⟩)) (.agg #[.int .u8 x, .int .i64 y]) H = some (H.set b (.row [c0, c1, .int .u8 x, .int .i64 y, c4, c5] e false)) := by
  unfold gStore
  rw [gSize_ld ld46]
  simp only [Value.cells, List.size_toArray, List.length_cons, List.length_nil, if_true]
  unfold gStoreCells
  rw [h]
  rfl
section
variable {H0 H : GH} {b2 b3 : Nat} {o : OpD} {row : List Value}
/-- An operation is handed back. -/
theorem of_14 {c : Handle} {k : Nat} (hb2 : H0.n ≤ b2) (hE : Ext H0 H) (g2 : H.get b2 = some (.row row 48 false)) (hr : row.length = 6) (g3 : H.get b3 = some (.row (opC o) 48 false)) :
    Ev (onV (gLoad Tryd.prog 48 (.pointer (some ⟨b3, 0, none⟩)) H) fun v1 => onH (gStore Tryd.prog 48 (.pointer (some ⟨b2, 0, none⟩)) v1 H) fun H2 => onV (gResL Tryd.prog H2 [((.pointer (some ⟨b2, 0, none⟩)), some 48)]) fun v => some [(v, H2)]) fun r => Ext H0 r.2 ∧ r.1 = opV o := by
  have l : gLoad Tryd.prog 48 (.pointer (some ⟨b3, 0, none⟩)) H = some (opV o) := (PtC.of g3).loadA ld48
  have hs := storeAll (P := Tryd.prog) (t := 48) (sz := 6) (v := opV o) (cs := opC o) g2 (gSize_ld ld48) hr rfl rfl rfl
  have l2 : gLoad Tryd.prog 48 (.pointer (some ⟨b2, 0, none⟩)) (H.set b2 (.row (opC o) 48 false)) = some (opV o) := (PtC.of (GH.get_set_same g2)).loadA ld48
  simp only [l, onV_s, hs, onH_s, gResL1, l2]
  exact Ev.mk ⟨hE.set hb2 (GH.get_lt g2) _, rfl⟩
end
section
variable {H0 H : GH} {b1 b2 b3 b4 : Nat} {x : OD} {row : List Value} {K B A : Int} {c : Handle} {k : Nat}
/-- The operation's kind is known; its other parts are filled in. -/
theorem of_3 (hx : x.ok) (hb2 : H0.n ≤ b2) (hb3 : H0.n ≤ b3) (h23 : b3 ≠ b2) (h13 : b3 ≠ b1) (h43 : b3 ≠ b4) (hE : Ext H0 H) (g1 : H.get b1 = some (.row (oC x) 52 false)) (g2 : H.get b2 = some (.row row 48 false)) (hr : row.length = 6)
    (g3 : H.get b3 = some (.row (opC ⟨K, 0, 0, 0, 0, 0⟩) 48 false)) (g4 : H.get b4 = some (.row [.int .u8 B, .int .i64 A] 46 false)) (hK : 1 ≤ K ∧ K ≤ 8) (hB : 0 ≤ B ∧ B ≤ 1) (hA : 1 ≤ A ∧ A ≤ 40) :
    Ev (f15_r3 c k (.pointer (some ⟨b1, 0, none⟩)) (.pointer (some ⟨b2, 0, none⟩)) (.pointer (some ⟨b3, 0, none⟩)) (.pointer (some ⟨b4, 0, none⟩)) H) fun r => Ext H0 r.2 ∧ ∃ o, OpOk o ∧ r.1 = opV o := by
  obtain ⟨xa, xb, xc, xd, xe, xf⟩ := hx
  have hlt := GH.get_lt g3
  have r2b := rm xb (show (0 : Int) < 2 by decide)
  have r6e := rm xe (show (0 : Int) < 6 by decide)
  have r9f := rm xf (show (0 : Int) < 9 by decide)
  have hE' : ∀ o, Ext H0 (H.set b3 o) := fun o => hE.set hb3 hlt o
  have lk : ∀ t, ldOk Tryd.prog t false 1 = true → gLoad Tryd.prog t (.pointer (some ⟨b3, 0, none⟩)) H = some (.int .u8 K) := fun t ht => ldc g3 ht rfl
  have w6 : IntKind.wrap .u8 (1 + x.e.tmod 6) = 1 + x.e.tmod 6 := Go.IntWalk.u8_in _ (by omega)
  have fin : ∀ {G : GH} {o : OpD}, Ext H0 G → G.get b2 = some (.row row 48 false) → G.get b3 = some (.row (opC o) 48 false) → OpOk o →
      Ev (onV (gLoad Tryd.prog 48 (.pointer (some ⟨b3, 0, none⟩)) G) fun v1 => onH (gStore Tryd.prog 48 (.pointer (some ⟨b2, 0, none⟩)) v1 G) fun H2 => onV (gResL Tryd.prog H2 [((.pointer (some ⟨b2, 0, none⟩)), some 48)]) fun v => some [(v, H2)]) fun r => Ext H0 r.2 ∧ ∃ o, OpOk o ∧ r.1 = opV o :=
    fun {G o} e g2' g3' ho => (of_14 (c := c) (k := k) hb2 e g2' hr g3').mono fun r hr => ⟨hr.1, o, ho, hr.2⟩
  unfold f15_r3
  simp only [fa48_0, onV_s, lk 42 ld42, bin_eql, asB_b, onBool_d]
  by_cases c1 : K = 1
  · rw [if_pos c1]
    unfold f15_r6
    have l1 : gLoad Tryd.prog 5 (.pointer (some ⟨b1, 1, none⟩)) H = some (.int .u8 x.b) := ldc g1 ld5 rfl
    have l4 : gLoad Tryd.prog 5 (.pointer (some ⟨b1, 4, none⟩)) H = some (.int .u8 x.e) := ldc g1 ld5 rfl
    have s1 := store1 (P := Tryd.prog) (t := 43) (o := 1) (v := .int .u8 (x.b.tmod 2)) g3 (gSize_ld ld43) rfl rfl (by simp [opC])
    have g1' : (H.set b3 (.row ((opC ⟨K, 0, 0, 0, 0, 0⟩).set 1 (.int .u8 (x.b.tmod 2))) 48 false)).get b1 = some (.row (oC x) 52 false) := (GH.get_set_other h13 hlt).trans g1
    have g2' : (H.set b3 (.row ((opC ⟨K, 0, 0, 0, 0, 0⟩).set 1 (.int .u8 (x.b.tmod 2))) 48 false)).get b2 = some (.row row 48 false) := (GH.get_set_other h23 hlt).trans g2
    have g3' := GH.get_set_same (o := .row ((opC ⟨K, 0, 0, 0, 0, 0⟩).set 1 (.int .u8 (x.b.tmod 2))) 48 false) g3
    have hE1 := hE' (.row ((opC ⟨K, 0, 0, 0, 0, 0⟩).set 1 (.int .u8 (x.b.tmod 2))) 48 false)
    simp only [fa52_1, onV_s, l1, rem2, fa52_4, l4, onClosed_i, rem6, bin_add, w6, fa48_1, s1, onH_s]
    revert g1' g2' g3' hE1
    generalize H.set b3 (.row ((opC ⟨K, 0, 0, 0, 0, 0⟩).set 1 (.int .u8 (x.b.tmod 2))) 48 false) = G
    intro g1' g2' g3' hE1
    have l4' : gLoad Tryd.prog 5 (.pointer (some ⟨b1, 4, none⟩)) G = some (.int .u8 x.e) := ldc g1' ld5 rfl
    have s2 := store1 (P := Tryd.prog) (t := 5) (o := 4) (v := .int .u8 (1 + x.e.tmod 6)) g3' (gSize_ld ld5) rfl rfl (by simp [opC])
    have hlt' := GH.get_lt g3'
    simp only [l4', onSame_i, fa48_3, onV_s, s2, onH_s]
    unfold f15_r14
    refine fin (o := ⟨K, x.b.tmod 2, 0, 0, 1 + x.e.tmod 6, 0⟩) (hE1.set hb3 hlt' _) ((GH.get_set_other h23 hlt').trans g2') (GH.get_set_same g3') (.inl ⟨c1, ?_, rfl, rfl, ?_, rfl⟩) <;> simp only <;> omega
  rw [if_neg c1]
  by_cases c2 : K = 2
  · rw [if_pos c2]
    have l4 : gLoad Tryd.prog 5 (.pointer (some ⟨b1, 4, none⟩)) H = some (.int .u8 x.e) := ldc g1 ld5 rfl
    have s2 := store1 (P := Tryd.prog) (t := 5) (o := 4) (v := .int .u8 (1 + x.e.tmod 6)) g3 (gSize_ld ld5) rfl rfl (by simp [opC])
    simp only [fa52_4, onV_s, l4, rem6, bin_add, w6, fa48_3, s2, onH_s]
    refine fin (o := ⟨K, 0, 0, 0, 1 + x.e.tmod 6, 0⟩) (hE' _) ((GH.get_set_other h23 hlt).trans g2) (GH.get_set_same g3) (.inr (.inl ⟨c2, rfl, rfl, rfl, ?_, rfl⟩)); simp only; omega
  rw [if_neg c2]
  by_cases c3 : K = 3
  · rw [if_pos c3]
    have l4 : gLoad Tryd.prog 5 (.pointer (some ⟨b1, 5, none⟩)) H = some (.int .u8 x.f) := ldc g1 ld5 rfl
    have w9 : IntKind.wrap .i64 (IntKind.wrap .i64 (x.f.tmod 9) - 4) = x.f.tmod 9 - 4 := by rw [Go.IntWalk.i64_in (x.f.tmod 9) (by omega), Go.IntWalk.i64_in _ (by omega)]
    have s2 := store1 (P := Tryd.prog) (t := 3) (o := 5) (v := .int .i64 (x.f.tmod 9 - 4)) g3 (gSize_ld ld3) rfl rfl (by simp [opC])
    simp only [fa52_5, onV_s, l4, rem9, conv5_3, bin_sub, w9, fa48_4, s2, onH_s]
    unfold f15_r14
    refine fin (o := ⟨K, 0, 0, 0, 0, x.f.tmod 9 - 4⟩) (hE' _) ((GH.get_set_other h23 hlt).trans g2) (GH.get_set_same g3) (.inr (.inr (.inl ⟨c3, rfl, rfl, rfl, rfl, ?_⟩))); simp only; omega
  rw [if_neg c3]
  have ln : gLoad Tryd.prog 46 (.pointer (some ⟨b4, 0, none⟩)) H = some (.agg #[.int .u8 B, .int .i64 A]) := (PtC.of g4).loadA ld46
  have h13' : ∀ z : Bool, (z = true → K = 7 ∨ K = 8) → (z = false → 4 ≤ K ∧ K ≤ 6) → Ev (f15_r13 c k (.pointer (some ⟨b1, 0, none⟩)) (.pointer (some ⟨b2, 0, none⟩)) (.pointer (some ⟨b3, 0, none⟩)) (.pointer (some ⟨b4, 0, none⟩)) (.bool z) H) fun r => Ext H0 r.2 ∧ ∃ o, OpOk o ∧ r.1 = opV o := by
    intro z hz1 hz0
    unfold f15_r13
    simp only [asB_b, onBool_i]
    cases z with
    | true =>
      simp only [if_true]
      have s := store46 (x := B) (y := A) (show H.get b3 = some (.row [.int .u8 K, .int .u8 0, .int .u8 0, .int .i64 0, .int .u8 0, .int .i64 0] 48 false) from g3)
      simp only [ln, onV_s, fa48_2, s, onH_s]
      exact fin (o := ⟨K, 0, B, A, 0, 0⟩) (hE' _) ((GH.get_set_other h23 hlt).trans g2) (GH.get_set_same g3) (.inr (.inr (.inr (.inr ⟨hz1 rfl, rfl, hB, hA, rfl, rfl⟩))))
    | false =>
      simp only [Bool.false_eq_true, if_false]
      have l1 : gLoad Tryd.prog 5 (.pointer (some ⟨b1, 1, none⟩)) H = some (.int .u8 x.b) := ldc g1 ld5 rfl
      have l4 : gLoad Tryd.prog 5 (.pointer (some ⟨b1, 4, none⟩)) H = some (.int .u8 x.e) := ldc g1 ld5 rfl
      have s1 := store1 (P := Tryd.prog) (t := 43) (o := 1) (v := .int .u8 (x.b.tmod 2)) g3 (gSize_ld ld43) rfl rfl (by simp [opC])
      have g1' : (H.set b3 (.row ((opC ⟨K, 0, 0, 0, 0, 0⟩).set 1 (.int .u8 (x.b.tmod 2))) 48 false)).get b1 = some (.row (oC x) 52 false) := (GH.get_set_other h13 hlt).trans g1
      have g2' : (H.set b3 (.row ((opC ⟨K, 0, 0, 0, 0, 0⟩).set 1 (.int .u8 (x.b.tmod 2))) 48 false)).get b2 = some (.row row 48 false) := (GH.get_set_other h23 hlt).trans g2
      have g4' : (H.set b3 (.row ((opC ⟨K, 0, 0, 0, 0, 0⟩).set 1 (.int .u8 (x.b.tmod 2))) 48 false)).get b4 = some (.row [.int .u8 B, .int .i64 A] 46 false) := (GH.get_set_other h43 hlt).trans g4
      have g3' := GH.get_set_same (o := .row ((opC ⟨K, 0, 0, 0, 0, 0⟩).set 1 (.int .u8 (x.b.tmod 2))) 48 false) g3
      have hE1 := hE' (.row ((opC ⟨K, 0, 0, 0, 0, 0⟩).set 1 (.int .u8 (x.b.tmod 2))) 48 false)
      simp only [fa52_1, onV_s, l1, rem2, ln, onClosed_a, fa52_4, l4, onClosed_i, rem6, bin_add, w6, fa48_1, s1, onH_s]
      revert g1' g2' g3' g4' hE1
      generalize H.set b3 (.row ((opC ⟨K, 0, 0, 0, 0, 0⟩).set 1 (.int .u8 (x.b.tmod 2))) 48 false) = G
      intro g1' g2' g4' g3' hE1
      have l4' : gLoad Tryd.prog 5 (.pointer (some ⟨b1, 4, none⟩)) G = some (.int .u8 x.e) := ldc g1' ld5 rfl
      have ln' : gLoad Tryd.prog 46 (.pointer (some ⟨b4, 0, none⟩)) G = some (.agg #[.int .u8 B, .int .i64 A]) := (PtC.of g4').loadA ld46
      have hlt' := GH.get_lt g3'
      have s2 := store46 (x := B) (y := A) (show G.get b3 = some (.row [.int .u8 K, .int .u8 (x.b.tmod 2), .int .u8 0, .int .i64 0, .int .u8 0, .int .i64 0] 48 false) from g3')
      have g1'' : (G.set b3 (.row [.int .u8 K, .int .u8 (x.b.tmod 2), .int .u8 B, .int .i64 A, .int .u8 0, .int .i64 0] 48 false)).get b1 = some (.row (oC x) 52 false) := (GH.get_set_other h13 hlt').trans g1'
      have g2'' : (G.set b3 (.row [.int .u8 K, .int .u8 (x.b.tmod 2), .int .u8 B, .int .i64 A, .int .u8 0, .int .i64 0] 48 false)).get b2 = some (.row row 48 false) := (GH.get_set_other h23 hlt').trans g2'
      have g3'' := GH.get_set_same (o := .row [.int .u8 K, .int .u8 (x.b.tmod 2), .int .u8 B, .int .i64 A, .int .u8 0, .int .i64 0] 48 false) g3'
      have hE2 := hE1.set hb3 hlt' (.row [.int .u8 K, .int .u8 (x.b.tmod 2), .int .u8 B, .int .i64 A, .int .u8 0, .int .i64 0] 48 false)
      simp only [ln', onSame_a, l4', onSame_i, fa48_2, onV_s, s2, onH_s]
      revert g1'' g2'' g3'' hE2
      generalize G.set b3 (.row [.int .u8 K, .int .u8 (x.b.tmod 2), .int .u8 B, .int .i64 A, .int .u8 0, .int .i64 0] 48 false) = G2
      intro g1'' g2'' g3'' hE2
      have l4'' : gLoad Tryd.prog 5 (.pointer (some ⟨b1, 4, none⟩)) G2 = some (.int .u8 x.e) := ldc g1'' ld5 rfl
      have s3 := store1 (P := Tryd.prog) (t := 5) (o := 4) (v := .int .u8 (1 + x.e.tmod 6)) g3'' (gSize_ld ld5) rfl rfl (by simp)
      have hlt'' := GH.get_lt g3''
      simp only [l4'', onSame_i, fa48_3, onV_s, s3, onH_s]
      unfold f15_r14
      refine fin (o := ⟨K, x.b.tmod 2, B, A, 1 + x.e.tmod 6, 0⟩) (hE2.set hb3 hlt'' _) ((GH.get_set_other h23 hlt'').trans g2'') (GH.get_set_same g3'') (.inr (.inr (.inr (.inl ⟨hz0 rfl, ?_, hB, hA, ?_, rfl⟩)))) <;> simp only <;> omega
  by_cases c7 : K = 7
  · rw [if_pos c7, decide_eq_true c7]
    exact h13' true (fun _ => .inl c7) (fun h => by cases h)
  rw [if_neg c7]
  by_cases c8 : K = 8
  · rw [decide_eq_true c8]
    exact h13' true (fun _ => .inr c8) (fun h => by cases h)
  · rw [decide_eq_false c8]
    exact h13' false (fun h => by cases h) (fun _ => by omega)
end
theorem of_ok {k : Nat} {x : OD} {H : GH} (hx : x.ok) : Ev (C (k + 1) (.func (.func 15) #[] #[]) [oV x] H) fun r => Ext H r.2 ∧ ∃ o, OpOk o ∧ r.1 = opV o := by
  rw [C_func T15, f15_eq]
  unfold f15_sh
  have hcl : (Value.cells (oV x)).toList = oC x := rfl
  rw [hcl]
  have hn1 : (H.push (.row (oC x) 52 false)).n = H.n + 1 := rfl
  have hn2 : ((H.push (.row (oC x) 52 false)).push (.row [(.int .u8 0), (.int .u8 0), (.int .u8 0), (.int .i64 0), (.int .u8 0), (.int .i64 0)] 48 false)).n = H.n + 2 := rfl
  rw [hn1, hn2]
  have hE : Ext H ((H.push (.row (oC x) 52 false)).push (.row [(.int .u8 0), (.int .u8 0), (.int .u8 0), (.int .i64 0), (.int .u8 0), (.int .i64 0)] 48 false)) := (Ext.push _ _).push' _
  have g1 : ((H.push (.row (oC x) 52 false)).push (.row [(.int .u8 0), (.int .u8 0), (.int .u8 0), (.int .i64 0), (.int .u8 0), (.int .i64 0)] 48 false)).get H.n = some (.row (oC x) 52 false) := (GH.get_push_old (Nat.lt_succ_self _)).trans GH.get_push_new
  have g2 : ((H.push (.row (oC x) 52 false)).push (.row [(.int .u8 0), (.int .u8 0), (.int .u8 0), (.int .i64 0), (.int .u8 0), (.int .i64 0)] 48 false)).get (H.n + 1) = some (.row [(.int .u8 0), (.int .u8 0), (.int .u8 0), (.int .i64 0), (.int .u8 0), (.int .i64 0)] 48 false) := GH.get_push_new
  have hn : ((H.push (.row (oC x) 52 false)).push (.row [(.int .u8 0), (.int .u8 0), (.int .u8 0), (.int .i64 0), (.int .u8 0), (.int .i64 0)] 48 false)).n = H.n + 2 := rfl
  revert hE g1 g2 hn
  generalize ((H.push (.row (oC x) 52 false)).push (.row [(.int .u8 0), (.int .u8 0), (.int .u8 0), (.int .i64 0), (.int .u8 0), (.int .i64 0)] 48 false)) = H1
  intro hE g1 g2 hn
  have ⟨xa, xb, xc, xd, xe, xf⟩ := hx
  have r8 := rm xa (show (0 : Int) < 8 by decide)
  have r2 := rm xc (show (0 : Int) < 2 by decide)
  have r40 := rm xd (show (0 : Int) < 40 by decide)
  have l1 : gLoad Tryd.prog 5 (.pointer (some ⟨H.n, 0, none⟩)) H1 = some (.int .u8 x.a) := ldc g1 ld5 rfl
  have w8 : IntKind.wrap .u8 (1 + x.a.tmod 8) = 1 + x.a.tmod 8 := Go.IntWalk.u8_in _ (by omega)
  obtain ⟨H2, f1, f2, f3, f4⟩ := box (P := Tryd.prog) (t := 48) (H := H1) (v := opV ⟨1 + x.a.tmod 8, 0, 0, 0, 0, 0⟩) (cs := opC ⟨1 + x.a.tmod 8, 0, 0, 0, 0, 0⟩) (row := [(.int .u8 0), (.int .u8 0), (.int .u8 0), (.int .i64 0), (.int .u8 0), (.int .i64 0)]) (e := 48) (gSize_ld ld48) rfl rfl rfl
  rw [hn] at f1 f3
  simp only [l1, onV_s, rem8, bin_add, w8, build48, f1, onH_s]
  unfold f15_r2
  have g1' := f2.get_of g1
  have l2 : gLoad Tryd.prog 5 (.pointer (some ⟨H.n, 2, none⟩)) H2 = some (.int .u8 x.c) := ldc g1' ld5 rfl
  have l3 : gLoad Tryd.prog 5 (.pointer (some ⟨H.n, 3, none⟩)) H2 = some (.int .u8 x.d) := ldc g1' ld5 rfl
  have w40 : IntKind.wrap .i64 (1 + IntKind.wrap .i64 (x.d.tmod 40)) = 1 + x.d.tmod 40 := by rw [Go.IntWalk.i64_in (x.d.tmod 40) (by omega), Go.IntWalk.i64_in _ (by omega)]
  obtain ⟨H3, i1, i2, i3, i4⟩ := box (P := Tryd.prog) (t := 46) (H := H2) (v := .agg #[.int .u8 (x.c.tmod 2), .int .i64 (1 + x.d.tmod 40)]) (cs := [.int .u8 (x.c.tmod 2), .int .i64 (1 + x.d.tmod 40)]) (row := [(.int .u8 0), (.int .i64 0)]) (e := 46) (gSize_ld ld46) rfl rfl rfl
  simp only [fa52_2, fa52_3, onV_s, l2, l3, rem2, rem40, conv5_3, bin_add, w40, build46, i1, onH_s]
  exact of_3 hx (by omega) (by omega) (by omega) (by omega) (by omega) ((hE.trans f2).trans i2) (i2.get_of g1') (i2.get_of (f2.get_of g2)) rfl (i2.get_of f3) i3 (by omega) (by omega) (by omega)
end Go.Proofs.YtdhadannleldiaaDoor
/- Tapes: an operation's bytes; the check sequence, a byte at a time. -/
namespace Go.Proofs.YtdhadannleldiaaDoor
open Go.Gh
set_option linter.unusedVariables false
set_option linter.unusedSimpArgs false

/-- As onV_s, but no step of computation: where the next value is a sum, the kernel would compare both. -/
theorem onV_n {β : Type} {v : Value} {K : Value → M β} : onV (some v) K = K v := (rfl)
/-- An operation's bytes. -/
def opB (o : OpD) : List Nat := [(o.kd + 16 * o.dr + 32 * o.bd).toNat, o.at'.toNat, (if o.kd = 3 then o.rk + 16 else o.yn).toNat]
def bv8 (x : Nat) : Value := .int .u8 (x : Int)
theorem cellsB {H : GH} : ∀ l : List Nat, CellsR tyB H (l.map bv8) l
  | [] => .nil
  | x :: l => .cons (c := [bv8 x]) (cs := l.map bv8) rfl (cellsB l)
theorem cellsB_eq {H : GH} {cs : List Value} {l : List Nat} (h : CellsR tyB H cs l) : cs = l.map bv8 := by
  induction h with
  | nil => rfl
  | @cons c cs x xs h t ih => rw [show c = [bv8 x] from h, ih]; rfl
theorem newB {H : GH} (l : List Nat) (c : Nat) : SlR tyB (H.push (.row (l.map bv8) 5 false)) (.slice (some ⟨H.n, 0, none⟩) l.length c) l :=
  .inr ⟨H.n, 0, c, _, 5, false, l.map bv8, rfl, GH.get_push_new, by simp, by rw [List.drop_zero, List.take_length], cellsB l⟩
theorem build24_3 {H : GH} {a b c : Int} : gBuildSlice Tryd.prog 24 3 [(0, .int .u8 a), (1, .int .u8 b), (2, .int .u8 c)] H = some (.slice (some ⟨H.n, 0, none⟩) 3 3, H.push (.row [.int .u8 a, .int .u8 b, .int .u8 c] 5 false)) := by kernel_rfl
theorem build24_2 {H : GH} {a b : Int} : gBuildSlice Tryd.prog 24 2 [(0, .int .u8 a), (1, .int .u8 b)] H = some (.slice (some ⟨H.n, 0, none⟩) 2 2, H.push (.row [.int .u8 a, .int .u8 b] 5 false)) := by kernel_rfl
theorem build24_1 {H : GH} {a : Int} : gBuildSlice Tryd.prog 24 1 [(0, .int .u8 a)] H = some (.slice (some ⟨H.n, 0, none⟩) 1 1, H.push (.row [.int .u8 a] 5 false)) := by kernel_rfl
theorem conv3_5 (i : Int) : (oConvert Tryd.prog 3 5 (.int .i64 i)).filter closed = some (.int .u8 (IntKind.wrap .u8 i)) := by kernel_rfl
theorem conv42_3 (i : Int) : (oConvert Tryd.prog 42 3 (.int .u8 i)).filter closed = some (.int .i64 (IntKind.wrap .i64 i)) := by kernel_rfl
theorem conv43_3 (i : Int) : (oConvert Tryd.prog 43 3 (.int .u8 i)).filter closed = some (.int .i64 (IntKind.wrap .i64 i)) := by kernel_rfl
theorem conv44_3 (i : Int) : (oConvert Tryd.prog 44 3 (.int .u8 i)).filter closed = some (.int .i64 (IntKind.wrap .i64 i)) := by kernel_rfl
theorem conv5_40 (i : Int) : (oConvert Tryd.prog 5 40 (.int .u8 i)).filter closed = some (.int .u16 (IntKind.wrap .u16 i)) := by kernel_rfl
theorem conv40_5 (i : Int) : (oConvert Tryd.prog 40 5 (.int .u16 i)).filter closed = some (.int .u8 (IntKind.wrap .u8 i)) := by kernel_rfl
theorem OpOk.rng {o : OpD} (h : OpOk o) : (1 ≤ o.kd ∧ o.kd ≤ 8) ∧ (0 ≤ o.dr ∧ o.dr ≤ 1) ∧ (0 ≤ o.bd ∧ o.bd ≤ 1) ∧ (0 ≤ o.at' ∧ o.at' ≤ 40) ∧ (0 ≤ o.yn ∧ o.yn ≤ 6) ∧ (-4 ≤ o.rk ∧ o.rk ≤ 4) := by
  unfold OpOk at h; omega
theorem opB_lt {o : OpD} (h : OpOk o) : ∀ x ∈ opB o, x < 256 := by
  obtain ⟨h1, h2, h3, h4, h5, h6⟩ := h.rng
  intro x hx
  simp only [opB, List.mem_cons, List.not_mem_nil, or_false] at hx
  rcases hx with rfl | rfl | rfl
  · omega
  · omega
  · split <;> omega
theorem encode_ok {k : Nat} {o : OpD} {H : GH} (ho : OpOk o) : Ev (C (k + 1) (.func (.func 27) #[] #[]) [opV o] H) fun r => Ext H r.2 ∧ SlR tyB r.2 r.1 (opB o) := by
  rw [C_func T27, f27_eq]
  unfold f27_sh
  obtain ⟨h1, h2, h3, h4, h5, h6⟩ := ho.rng
  have hcl : (Value.cells (opV o)).toList = opC o := rfl
  rw [hcl]
  have hE : Ext H (H.push (.row (opC o) 48 false)) := Ext.push _ _
  have g : (H.push (.row (opC o) 48 false)).get H.n = some (.row (opC o) 48 false) := GH.get_push_new
  revert hE g
  generalize H.push (.row (opC o) 48 false) = G
  intro hE g
  have l0 : gLoad Tryd.prog 42 (.pointer (some ⟨H.n, 0, none⟩)) G = some (.int .u8 o.kd) := ldc g ld42 rfl
  have l1 : gLoad Tryd.prog 43 (.pointer (some ⟨H.n, 1, none⟩)) G = some (.int .u8 o.dr) := ldc g ld43 rfl
  have l2 : gLoad Tryd.prog 44 (.pointer (some ⟨H.n, 2, none⟩)) G = some (.int .u8 o.bd) := ldc g ld44 rfl
  have l3 : gLoad Tryd.prog 3 (.pointer (some ⟨H.n, 3, none⟩)) G = some (.int .i64 o.at') := ldc g ld3 rfl
  have l4 : gLoad Tryd.prog 5 (.pointer (some ⟨H.n, 4, none⟩)) G = some (.int .u8 o.yn) := ldc g ld5 rfl
  have l5 : gLoad Tryd.prog 3 (.pointer (some ⟨H.n, 5, none⟩)) G = some (.int .i64 o.rk) := ldc g ld3 rfl
  have key : ∀ z : Int, z = (if o.kd = 3 then o.rk + 16 else o.yn) → Ev (f27_r4 (C k) k (.pointer (some ⟨H.n, 0, none⟩)) (.int .u8 z) G) fun r => Ext H r.2 ∧ SlR tyB r.2 r.1 (opB o) := fun z hz => by
    unfold f27_r4
    simp only [fa48_0, fa48_1, fa48_2, fa46_0, fa46_1, onV_n, l0, l1, l2, l3, bin_mul, bin_add, conv3_5, build24_3, onVH_s]
    rw [Go.IntWalk.u8_in (16 * o.dr) (by omega), Go.IntWalk.u8_in (32 * o.bd) (by omega), Go.IntWalk.u8_in (o.kd + 16 * o.dr) (by omega), Go.IntWalk.u8_in (o.kd + 16 * o.dr + 32 * o.bd) (by omega), Go.IntWalk.u8_in o.at' (by omega)]
    have hz0 : 0 ≤ z := by rw [hz]; split <;> omega
    have e : [Value.int .u8 (o.kd + 16 * o.dr + 32 * o.bd), .int .u8 o.at', .int .u8 z] = (opB o).map bv8 := by
      simp only [opB, List.map_cons, List.map_nil, bv8]
      rw [Int.toNat_of_nonneg (by omega), Int.toNat_of_nonneg (by omega), ← hz, Int.toNat_of_nonneg hz0]
    rw [e]
    exact Ev.mk ⟨hE.push' _, newB (opB o) 3⟩
  simp only [l4, l0, l5, onV_n, bin_eql, asB_b, onBool_d, bin_add, conv3_5]
  by_cases c3 : o.kd = 3
  · rw [if_pos c3, Go.IntWalk.i64_in (o.rk + 16) (by omega), Go.IntWalk.u8_in (o.rk + 16) (by omega)]
    exact key _ (by rw [if_pos c3])
  · rw [if_neg c3]
    exact key _ (by rw [if_neg c3])
theorem encoded_ok {k : Nat} {o : OpD} {H : GH} (ho : OpOk o) : Ev (C (k + 1) (.func (.func 28) #[] #[]) [opV o] H) fun r => Ext H r.2 ∧ SlR tyB r.2 r.1 (opB o) := by
  rw [C_func T28, f28_eq]
  unfold f28_sh
  obtain ⟨h1, h2, h3, h4, h5, h6⟩ := ho.rng
  have hcl : (Value.cells (opV o)).toList = opC o := rfl
  rw [hcl]
  have hE : Ext H (H.push (.row (opC o) 48 false)) := Ext.push _ _
  have g : (H.push (.row (opC o) 48 false)).get H.n = some (.row (opC o) 48 false) := GH.get_push_new
  revert hE g
  generalize H.push (.row (opC o) 48 false) = G
  intro hE g
  have l0 : gLoad Tryd.prog 42 (.pointer (some ⟨H.n, 0, none⟩)) G = some (.int .u8 o.kd) := ldc g ld42 rfl
  have l1 : gLoad Tryd.prog 43 (.pointer (some ⟨H.n, 1, none⟩)) G = some (.int .u8 o.dr) := ldc g ld43 rfl
  have l2 : gLoad Tryd.prog 44 (.pointer (some ⟨H.n, 2, none⟩)) G = some (.int .u8 o.bd) := ldc g ld44 rfl
  have l3 : gLoad Tryd.prog 3 (.pointer (some ⟨H.n, 3, none⟩)) G = some (.int .i64 o.at') := ldc g ld3 rfl
  have l4 : gLoad Tryd.prog 5 (.pointer (some ⟨H.n, 4, none⟩)) G = some (.int .u8 o.yn) := ldc g ld5 rfl
  have l5 : gLoad Tryd.prog 3 (.pointer (some ⟨H.n, 5, none⟩)) G = some (.int .i64 o.rk) := ldc g ld3 rfl
  have key : ∀ z : Int, z = (if o.kd = 3 then o.rk + 16 else o.yn) → Ev (f28_r4 (C k) k (.pointer (some ⟨H.n, 0, none⟩)) (.int .i64 z) G) fun r => Ext H r.2 ∧ SlR tyB r.2 r.1 (opB o) := fun z hz => by
    have hz0 : 0 ≤ z ∧ z ≤ 20 := by rw [hz]; split <;> omega
    unfold f28_r4
    simp only [fa48_0, fa48_1, fa48_2, fa46_0, fa46_1, onV_n, l0, l1, l2, l3, bin_mul, bin_add, conv3_5, conv42_3, conv43_3, conv44_3, build24_3, onVH_s]
    rw [Go.IntWalk.i64_in o.dr (by omega), Go.IntWalk.i64_in o.bd (by omega), Go.IntWalk.i64_in o.kd (by omega), Go.IntWalk.i64_in (16 * o.dr) (by omega), Go.IntWalk.i64_in (32 * o.bd) (by omega), Go.IntWalk.i64_in (o.kd + 16 * o.dr) (by omega), Go.IntWalk.i64_in (o.kd + 16 * o.dr + 32 * o.bd) (by omega),
      Go.IntWalk.u8_in (o.kd + 16 * o.dr + 32 * o.bd) (by omega), Go.IntWalk.u8_in o.at' (by omega), Go.IntWalk.u8_in z (by omega)]
    have e : [Value.int .u8 (o.kd + 16 * o.dr + 32 * o.bd), .int .u8 o.at', .int .u8 z] = (opB o).map bv8 := by
      simp only [opB, List.map_cons, List.map_nil, bv8]
      rw [Int.toNat_of_nonneg (by omega), Int.toNat_of_nonneg (by omega), ← hz, Int.toNat_of_nonneg hz0.1]
    rw [e]
    exact Ev.mk ⟨hE.push' _, newB (opB o) 3⟩
  simp only [l4, l0, l5, onV_n, bin_eql, asB_b, onBool_d, bin_add, conv5_3]
  by_cases c3 : o.kd = 3
  · rw [if_pos c3, Go.IntWalk.i64_in (o.rk + 16) (by omega)]
    exact key _ (by rw [if_pos c3])
  · rw [if_neg c3, Go.IntWalk.i64_in o.yn (by omega)]
    exact key _ (by rw [if_neg c3])

/-! ### The check sequence -/
theorem shr15 (i : Int) : (oBin Tryd.prog .shr 40 (.int .u16 i) (.int .u64 15)).filter closed = some (.int .u16 (i.fdiv 32768)) := by kernel_rfl
theorem shr8 (i : Int) : (oBin Tryd.prog .shr 40 (.int .u16 i) (.int .u64 8)).filter closed = some (.int .u16 (i.fdiv 256)) := by kernel_rfl
theorem shl1 (i : Int) : (oBin Tryd.prog .shl 40 (.int .u16 i) (.int .u64 1)).filter closed = some (.int .u16 (IntKind.wrap .u16 (i * 2))) := by kernel_rfl
theorem shl8 (i : Int) : (oBin Tryd.prog .shl 40 (.int .u16 i) (.int .u64 8)).filter closed = some (.int .u16 (IntKind.wrap .u16 (i * 256))) := by kernel_rfl
theorem w16 (n : Nat) : IntKind.wrap .u16 (n : Int) = ((n % 65536 : Nat) : Int) := by
  simp [IntKind.wrap, IntKind.bits, IntKind.signed]
theorem xor16' (a b : Int) : (oBin Tryd.prog .xor 40 (.int .u16 a) (.int .u16 b)).filter closed = some (.int .u16 (IntKind.wrap .u16 (((BitVec.ofInt 16 a) ^^^ (BitVec.ofInt 16 b)).toNat : Nat))) := by kernel_rfl
theorem xor16 {a b : Nat} (ha : a < 65536) (hb : b < 65536) : (oBin Tryd.prog .xor 40 (.int .u16 (a : Int)) (.int .u16 (b : Int))).filter closed = some (.int .u16 ((a ^^^ b : Nat) : Int)) := by
  rw [xor16', BitVec.ofInt_natCast, BitVec.ofInt_natCast, BitVec.toNat_xor, BitVec.toNat_ofNat, BitVec.toNat_ofNat, Nat.mod_eq_of_lt (show a < 2 ^ 16 from ha), Nat.mod_eq_of_lt (show b < 2 ^ 16 from hb), w16, Nat.mod_eq_of_lt (Nat.xor_lt_two_pow (n := 16) ha hb)]
theorem fdivN (a : Nat) {b : Nat} (hb : 0 < b) : (a : Int).fdiv (b : Int) = ((a / b : Nat) : Int) := by
  rw [Int.fdiv_eq_ediv_of_nonneg _ (by omega)]; rfl
theorem crcBs_step (k s : Nat) : crcBs (k + 1) s = crcB (crcBs k s) := rfl
section
variable {c : Handle} {k' : Nat} {v : Value} {bs : List Nat} {H : GH} {Q : Value × GH → Prop}
theorem ck_l7 {sg : Sg4} {i n : Value} {s : Nat} (hs : s < 65536) (hgo : Ev (onV ((oBin Tryd.prog .add 3 i (.int .i64 1)).filter closed) fun v7 => sg (.int .u16 ((crcBs 8 s : Nat) : Int)) v n v7 H) Q) :
    ∀ (r j : Nat), j ≤ 8 → 8 - j < r → Ev (f12_l7 c k' sg r (.int .u16 ((crcBs j s : Nat) : Int)) v n i (.int .i64 j) H) Q := by
  intro r
  induction r with
  | zero => intro j _ h; omega
  | succ r ih =>
    intro j hj hr
    show Ev (f12_l7b c k' sg (f12_l7 c k' sg r) (.int .u16 ((crcBs j s : Nat) : Int)) v n i (.int .i64 j) H) Q
    unfold f12_l7b
    simp only [bin_lss, onV_s, asB_b, onBool_d]
    by_cases hlt : j < 8
    · rw [if_pos (by omega)]
      have hb := crcBs_lt hs j
      have e1 : IntKind.wrap .u16 (((crcBs j s / 32768 : Nat) : Int) * 4129) = ((crcBs j s / 32768 * 4129 : Nat) : Int) := by
        have h1 : crcBs j s / 32768 ≤ 1 := by omega
        have h2 := Nat.mul_le_mul_right 4129 h1
        rw [show ((crcBs j s / 32768 : Nat) : Int) * 4129 = ((crcBs j s / 32768 * 4129 : Nat) : Int) by omega, w16, Nat.mod_eq_of_lt (by omega)]
      have e2 : IntKind.wrap .u16 (((crcBs j s : Nat) : Int) * 2) = ((2 * crcBs j s % 65536 : Nat) : Int) := by
        rw [show ((crcBs j s : Nat) : Int) * 2 = ((2 * crcBs j s : Nat) : Int) by omega, w16]
      have h2 : crcBs j s / 32768 * 4129 < 65536 := by
        have h1 : crcBs j s / 32768 ≤ 1 := by omega
        have h2 := Nat.mul_le_mul_right 4129 h1
        omega
      have e3 : ((crcBs j s : Nat) : Int).fdiv 32768 = ((crcBs j s / 32768 : Nat) : Int) := fdivN _ (b := 32768) (by decide)
      simp only [shr15, shl1, bin_mul, onV_s, e2, e3, e1, xor16 (Nat.mod_lt _ (by decide)) h2, bin_add]
      rw [wrS (by omega)]
      exact ih (j + 1) (by omega) (by omega)
    · rw [if_neg (by omega)]
      have : j = 8 := by omega
      subst this
      exact hgo
theorem ck_l3 (hs : SlR tyB H v bs) (hb : ∀ x ∈ bs, x < 256) (hl : bs.length ≤ 1000000) (hk : 10 ≤ k') (hgo : Q (.int .u16 ((crc bs : Nat) : Int), H)) :
    ∀ (r i : Nat), i ≤ bs.length → bs.length - i < r → Ev (f12_l3 c k' r (.int .u16 (((bs.take i).foldl crcY 65535 : Nat) : Int)) v (.int .i64 bs.length) (.int .i64 i) H) Q := by
  intro r
  induction r with
  | zero => intro i _ h; omega
  | succ r ih =>
    intro i hi hr
    show Ev (f12_l3b c k' (f12_l3 c k' r) (.int .u16 (((bs.take i).foldl crcY 65535 : Nat) : Int)) v (.int .i64 bs.length) (.int .i64 i) H) Q
    unfold f12_l3b
    simp only [bin_lss, onV_s, asB_b, onBool_d]
    by_cases hlt : i < bs.length
    · rw [if_pos (by omega)]
      obtain ⟨p, cs, e1, e2, e3⟩ := hs.at u24 (elemOk_size el5) (k := .i64) hlt
      have e3 : cs = [.int .u8 (bs[i] : Int)] := e3
      subst e3
      have hx := hb _ (List.getElem_mem hlt)
      have h16 : IntKind.wrap .u16 ((bs[i] : Nat) : Int) = ((bs[i] : Nat) : Int) := by rw [w16, Nat.mod_eq_of_lt (by omega)]
      have h17 : IntKind.wrap .u16 (((bs[i] : Nat) : Int) * 256) = ((bs[i] * 256 : Nat) : Int) := by rw [show ((bs[i] : Nat) : Int) * 256 = ((bs[i] * 256 : Nat) : Int) by omega, w16, Nat.mod_eq_of_lt (by omega)]
      have hs' := (div_bytes hb i hi).1
      simp only [e1, e2.load1 ld5, onV_s, conv5_40, h16, shl8, h17, xor16 hs' (show bs[i] * 256 < 65536 by omega)]
      refine ck_l7 (s := (bs.take i).foldl crcY 65535 ^^^ bs[i] * 256) (Nat.xor_lt_two_pow (n := 16) hs' (by omega)) ?_ k' 0 (by omega) (by omega)
      simp only [bin_add, onV_s]
      rw [wrS (by omega)]
      have := ih (i + 1) (by omega) (by omega)
      rw [List.take_succ_eq_append_getElem hlt, List.foldl_append] at this
      exact this
    · rw [if_neg (by omega)]
      rw [List.take_of_length_le (by omega)]
      exact Ev.mk hgo
end
theorem check16_ok {k : Nat} {v : Value} {bs : List Nat} {H : GH} (hk : 10 ≤ k) (hs : SlR tyB H v bs) (hb : ∀ x ∈ bs, x < 256) (hl : bs.length < k) (hl' : bs.length ≤ 1000000) : Ev (C (k + 1) (.func (.func 12) #[] #[]) [v] H) fun r => r = (.int .u16 ((crc bs : Nat) : Int), H) := by
  rw [C_func T12, f12_eq]
  unfold f12_sh
  simp only [hs.oLen u24, onV_s]
  exact ck_l3 (Q := fun r => r = (.int .u16 ((crc bs : Nat) : Int), H)) hs hb hl' hk rfl k 0 (by omega) (by omega)
end Go.Proofs.YtdhadannleldiaaDoor
