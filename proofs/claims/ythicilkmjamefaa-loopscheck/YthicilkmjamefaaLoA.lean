/- The loops' data: names, passes, loops, tables; how they lie; is a loop there? -/
import Derived.Test.YthicilkmjamefaaGpShCall
import Derived.Test.YthicilkmjamefaaLoT
import Derived.Test.YthicilkmjamefaaShL46
import Derived.Test.YthicilkmjamefaaShL115
import Derived.Test.YthicilkmjamefaaShL23
namespace Go.Proofs.Ythicilkmjamefaa
open Go.Gh
set_option linter.unusedVariables false
set_option linter.unusedSimpArgs false

/-- The handle by which functions call. -/
noncomputable def C (k : Nat) : Handle := gCallC Try.prog fnT clo k
theorem C_func {k f : Nat} {fn : Func} {args : List Value} {H : GH} (h : fnT f = some fn) : C (k + 1) (.func (.func f) #[] #[]) args H = gFunc Try.prog (C k) k fn args H := by
  show (match fnT f with | some fn => gFunc Try.prog (C k) k fn (#[].toList ++ args ++ #[].toList) H | none => _) = _
  rw [h]
  simp
theorem C_clos {k f : Nat} {fn : Func} {cs : Array Value} {args : List Value} {H : GH} (h : fnT f = some fn) : C (k + 1) (.func (.func f) #[] cs) args H = gFunc Try.prog (C k) k fn (args ++ cs.toList) H := by
  show (match fnT f with | some fn => gFunc Try.prog (C k) k fn (#[].toList ++ args ++ cs.toList) H | none => _) = _
  rw [h]
  simp
theorem C_none {k f : Nat} {v : Value} {H : GH} (h : fnT f = none) (hc : clo f = some v) : C (k + 1) (.func (.func f) #[] #[]) [] H = some [(v, H)] := by
  show (match fnT f with | some fn => _ | none => match clo f, (#[].toList ++ [] ++ #[].toList : List Value) with | some v, [] => some [(v, H)] | _, _ => none) = _
  rw [h, hc]
  rfl

/-- A name of a loop: its yarn, its number. -/
abbrev Idn := Int × Int
def idC (x : Idn) : List Value := [.int .u8 x.1, .int .i64 x.2]
def idV (x : Idn) : Value := .agg #[.int .u8 x.1, .int .i64 x.2]
structure PassD where
  id : Idn
  front : Bool
  dir : Int
structure LoopD where
  bed : Int
  new : Bool
  thr : List Idn
  past : List PassD
def tyId : Ty Idn where
  sz := 2
  rep _ cs x := cs = idC x ∧ 0 ≤ x.1 ∧ x.1 ≤ 255
  len h := by obtain ⟨rfl, _⟩ := h; rfl
  one h := by obtain ⟨rfl, _⟩ := h; rfl
  mono _ h := h
def paC (x : PassD) : List Value := [.int .u8 x.id.1, .int .i64 x.id.2, .bool x.front, .int .u8 x.dir]
def tyPa : Ty PassD where
  sz := 4
  rep _ cs x := cs = paC x ∧ (0 ≤ x.id.1 ∧ x.id.1 ≤ 255) ∧ 0 ≤ x.dir
  len h := by obtain ⟨rfl, _⟩ := h; rfl
  one h := by obtain ⟨rfl, _⟩ := h; rfl
  mono _ h := h
def tyLp : Ty LoopD where
  sz := 4
  rep H cs x := ∃ vT vP, cs = [.int .u8 x.bed, .bool x.new, vT, vP] ∧ SlR tyId H vT x.thr ∧ SlR tyPa H vP x.past
  len h := by obtain ⟨vT, vP, rfl, _⟩ := h; rfl
  one h := by
    obtain ⟨vT, vP, rfl, h1, h2⟩ := h
    obtain ⟨a, c, rfl⟩ := h1.val
    obtain ⟨a', c', rfl⟩ := h2.val
    rfl
  mono hE h := by obtain ⟨vT, vP, h0, h1, h2⟩ := h; exact ⟨vT, vP, h0, h1.mono hE, h2.mono hE⟩
theorem gets_id : tyId.Gets := fun _ _ _ _ _ h => h
theorem gets_pa : tyPa.Gets := fun _ _ _ _ _ h => h
theorem gets_lp : tyLp.Gets := fun H H' cs x hg ⟨vT, vP, h0, h1, h2⟩ => ⟨vT, vP, h0, h1.gets gets_id hg, h2.gets gets_pa hg⟩
/-- A table of loops. -/
abbrev Tab := List (List LoopD)
abbrev tyTab : Ty (List LoopD) := tySl tyLp

theorem ld29 : ldOk Try.prog 29 true 2 = true := by kernel_rfl
theorem ld157 : ldOk Try.prog 157 true 4 = true := by kernel_rfl
theorem ld62 : ldOk Try.prog 62 true 4 = true := by kernel_rfl
theorem ld5 : ldOk Try.prog 5 false 1 = true := by kernel_rfl
theorem ld3 : ldOk Try.prog 3 false 1 = true := by kernel_rfl
theorem ld4 : ldOk Try.prog 4 false 1 = true := by kernel_rfl
theorem ld33 : ldOk Try.prog 33 false 1 = true := by kernel_rfl
theorem ld155 : ldOk Try.prog 155 false 1 = true := by kernel_rfl
theorem ld26 : ldOk Try.prog 26 false 1 = true := by kernel_rfl
theorem ld58 : ldOk Try.prog 58 false 1 = true := by kernel_rfl
theorem ld59 : ldOk Try.prog 59 false 1 = true := by kernel_rfl
theorem ld60 : ldOk Try.prog 60 false 1 = true := by kernel_rfl
theorem ld71 : ldOk Try.prog 71 false 1 = true := by kernel_rfl
theorem ld113 : ldOk Try.prog 113 false 1 = true := by kernel_rfl
theorem ld160 : ldOk Try.prog 160 true 7 = true := by kernel_rfl
theorem fd29_0 : fdOk Try.prog 29 0 0 1 = true := by kernel_rfl
theorem fd29_1 : fdOk Try.prog 29 1 1 1 = true := by kernel_rfl
theorem fd157_0 : fdOk Try.prog 157 0 0 2 = true := by kernel_rfl
theorem fd157_1 : fdOk Try.prog 157 1 2 1 = true := by kernel_rfl
theorem fd157_2 : fdOk Try.prog 157 2 3 1 = true := by kernel_rfl
theorem fd62_0 : fdOk Try.prog 62 0 0 1 = true := by kernel_rfl
theorem fd62_1 : fdOk Try.prog 62 1 1 1 = true := by kernel_rfl
theorem fd62_2 : fdOk Try.prog 62 2 2 1 = true := by kernel_rfl
theorem fd62_3 : fdOk Try.prog 62 3 3 1 = true := by kernel_rfl
theorem el29 : elemOk Try.prog 29 2 = true := by kernel_rfl
theorem el157 : elemOk Try.prog 157 4 = true := by kernel_rfl
theorem el62 : elemOk Try.prog 62 4 = true := by kernel_rfl
theorem el59 : elemOk Try.prog 59 1 = true := by kernel_rfl
theorem el3 : elemOk Try.prog 3 1 = true := by kernel_rfl
theorem u26 : Try.prog.underlying 26 = some (.slice 29) := Try.underlying26
theorem u58 : Try.prog.underlying 58 = some (.slice 59) := Try.underlying58
theorem u59 : Try.prog.underlying 59 = some (.slice 62) := Try.underlying59
theorem u60 : Try.prog.underlying 60 = some (.slice 157) := Try.underlying60
theorem u71 : Try.prog.underlying 71 = some (.slice 3) := Try.underlying71

section
variable {H : GH} {p v : Value} {cs : List Value}
theorem id_f {x : Idn} (h : PtC H p (idC x)) : ∃ q0 q1, oFieldAddr Try.prog 29 p 0 = some q0 ∧ gLoad Try.prog 5 q0 H = some (.int .u8 x.1) ∧ oFieldAddr Try.prog 29 p 1 = some q1 ∧ gLoad Try.prog 3 q1 H = some (.int .i64 x.2) := by
  obtain ⟨q0, a0, b0⟩ := h.f1 fd29_0 ld5 rfl
  obtain ⟨q1, a1, b1⟩ := h.f1 fd29_1 ld3 rfl
  exact ⟨q0, q1, a0, b0, a1, b1⟩
theorem id_ld {x : Idn} (h : PtC H p (idC x)) : gLoad Try.prog 29 p H = some (idV x) := h.loadA ld29
theorem pa_f {x : PassD} (h : PtC H p (paC x)) : ∃ q0 q1 q2, oFieldAddr Try.prog 157 p 0 = some q0 ∧ PtC H q0 (idC x.id) ∧ oFieldAddr Try.prog 157 p 1 = some q1 ∧ gLoad Try.prog 4 q1 H = some (.bool x.front) ∧ oFieldAddr Try.prog 157 p 2 = some q2 ∧ gLoad Try.prog 155 q2 H = some (.int .u8 x.dir) := by
  obtain ⟨q0, a0, b0⟩ := h.fN (ds := idC x.id) fd157_0 (by simp [paC]) rfl
  obtain ⟨q1, a1, b1⟩ := h.f1 fd157_1 ld4 rfl
  obtain ⟨q2, a2, b2⟩ := h.f1 fd157_2 ld155 rfl
  exact ⟨q0, q1, q2, a0, b0, a1, b1, a2, b2⟩
theorem pa_ld {x : PassD} (h : PtC H p (paC x)) : gLoad Try.prog 157 p H = some (.agg (paC x).toArray) := h.loadA ld157
/-- A loop lies there. -/
def LpAt (H : GH) (p : Value) (x : LoopD) : Prop := ∃ cs, PtC H p cs ∧ tyLp.rep H cs x
theorem LpAt.mono {H' : GH} {x : LoopD} (hE : Ext H H') (h : LpAt H p x) : LpAt H' p x := by
  obtain ⟨cs, h1, h2⟩ := h
  exact ⟨cs, h1.mono hE, tyLp.mono hE h2⟩
theorem lp_f {x : LoopD} (h : LpAt H p x) : ∃ q0 q1 q2 q3 vT vP, oFieldAddr Try.prog 62 p 0 = some q0 ∧ gLoad Try.prog 33 q0 H = some (.int .u8 x.bed) ∧ oFieldAddr Try.prog 62 p 1 = some q1 ∧ gLoad Try.prog 4 q1 H = some (.bool x.new) ∧
    oFieldAddr Try.prog 62 p 2 = some q2 ∧ gLoad Try.prog 26 q2 H = some vT ∧ oFieldAddr Try.prog 62 p 3 = some q3 ∧ gLoad Try.prog 60 q3 H = some vP ∧ SlR tyId H vT x.thr ∧ SlR tyPa H vP x.past := by
  obtain ⟨cs, h, vT, vP, rfl, h1, h2⟩ := h
  obtain ⟨q0, a0, b0⟩ := h.f1 fd62_0 ld33 rfl
  obtain ⟨q1, a1, b1⟩ := h.f1 fd62_1 ld4 rfl
  obtain ⟨q2, a2, b2⟩ := h.f1 fd62_2 ld26 rfl
  obtain ⟨q3, a3, b3⟩ := h.f1 fd62_3 ld60 rfl
  exact ⟨q0, q1, q2, q3, vT, vP, a0, b0, a1, b1, a2, b2, a3, b3, h1, h2⟩
theorem lp_ld {x : LoopD} (h : LpAt H p x) : ∃ cs, gLoad Try.prog 62 p H = some (.agg cs.toArray) ∧ tyLp.rep H cs x ∧ cs.length = 4 ∧ cs.all oneC = true := by
  obtain ⟨cs, h1, h2⟩ := h
  refine ⟨cs, h1.loadA (by rw [tyLp.len h2]; exact ld62), h2, tyLp.len h2, tyLp.one h2⟩
theorem id_at {xs : List Idn} (h : SlR tyId H v xs) {k : IntKind} {i : Nat} (hi : i < xs.length) : ∃ p, oIndexAddr Try.prog 26 v (.int k i) = some p ∧ PtC H p (idC xs[i]) ∧ 0 ≤ xs[i].1 ∧ xs[i].1 ≤ 255 := by
  obtain ⟨p, cs, h1, h2, rfl, h3⟩ := h.at u26 (elemOk_size el29) (k := k) hi
  exact ⟨p, h1, h2, h3⟩
theorem pa_at {xs : List PassD} (h : SlR tyPa H v xs) {k : IntKind} {i : Nat} (hi : i < xs.length) : ∃ p, oIndexAddr Try.prog 60 v (.int k i) = some p ∧ PtC H p (paC xs[i]) ∧ 0 ≤ xs[i].id.1 ∧ xs[i].id.1 ≤ 255 := by
  obtain ⟨p, cs, h1, h2, rfl, h3, _⟩ := h.at u60 (elemOk_size el157) (k := k) hi
  exact ⟨p, h1, h2, h3⟩
theorem pa_cell {cs : List Value} {xs : List PassD} (h : CellsR tyPa H cs xs) : ∀ x ∈ xs, 0 ≤ x.dir := by
  induction h with
  | nil => intro x hx; cases hx
  | cons h t ih =>
    intro x hx
    rcases List.mem_cons.1 hx with rfl | hx
    · exact h.2.2
    · exact ih x hx
theorem pa_dir {xs : List PassD} (h : SlR tyPa H v xs) : ∀ x ∈ xs, 0 ≤ x.dir := by
  rcases h with ⟨_, rfl⟩ | ⟨b, o, c, row, e, ro, cs, h1, h2, h3, h4, h5⟩
  · intro x hx; cases hx
  · exact pa_cell h5
theorem lp_at {xs : List LoopD} (h : SlR tyLp H v xs) {k : IntKind} {i : Nat} (hi : i < xs.length) : ∃ p, oIndexAddr Try.prog 59 v (.int k i) = some p ∧ LpAt H p xs[i] := by
  obtain ⟨p, cs, h1, h2, h3⟩ := h.at u59 (elemOk_size el62) (k := k) hi
  exact ⟨p, h1, cs, h2, h3⟩
theorem tb_at {t : Tab} (h : SlR tyTab H v t) {k : IntKind} {i : Nat} (hi : i < t.length) : ∃ p lv, oIndexAddr Try.prog 58 v (.int k i) = some p ∧ gLoad Try.prog 59 p H = some lv ∧ SlR tyLp H lv t[i] := by
  obtain ⟨p, cs, h1, h2, lv, rfl, h3⟩ := h.at u58 (elemOk_size el59) (k := k) hi
  exact ⟨p, lv, h1, h2.load1 ld59, h3⟩
end
theorem conv53 {i : Int} (h : 0 ≤ i ∧ i ≤ 255) : (oConvert Try.prog 5 3 (.int .u8 i)).filter closed = some (.int .i64 i) := by
  have : (oConvert Try.prog 5 3 (.int .u8 i)).filter closed = some (.int .i64 (IntKind.wrap .i64 i)) := by kernel_rfl
  rw [this, Go.IntWalk.i64_in _ (by omega)]
theorem conv35 {i : Int} (h : 0 ≤ i ∧ i ≤ 255) : (oConvert Try.prog 3 5 (.int .i64 i)).filter closed = some (.int .u8 i) := by
  have : (oConvert Try.prog 3 5 (.int .i64 i)).filter closed = some (.int .u8 (IntKind.wrap .u8 i)) := by kernel_rfl
  rw [this, Go.IntWalk.u8_in _ h]

/-- Is there such a loop? -/
def hasB (t : Tab) (x : Idn) : Bool := decide (1 ≤ x.1) && (decide (x.1 ≤ t.length) && (decide (0 ≤ x.2) && match t[(x.1 - 1).toNat]? with | some l => decide (x.2 < l.length) | none => false))
theorem there_ok {k : Nat} {v : Value} {t : Tab} {x : Idn} {H : GH} (hs : SlR tyTab H v t) (hx : 0 ≤ x.1 ∧ x.1 ≤ 255) : Ev (C (k + 1) (.func (.func 74) #[] #[]) [v, idV x] H) fun r => Ext H r.2 ∧ r.1 = .bool (hasB t x) := by
  rw [C_func T74, f74_eq]
  unfold f74_sh f74_r1
  have hE : Ext H (H.push (.row (Value.cells (idV x)).toList 29 false)) := Ext.push _ _
  have hp : PtC (H.push (.row (Value.cells (idV x)).toList 29 false)) (.pointer (some ⟨H.n, 0, none⟩)) (idC x) := PtC.new H _ _ _
  have hs := hs.mono hE
  revert hE hp hs
  generalize H.push (.row (Value.cells (idV x)).toList 29 false) = H1
  intro hE hp hs
  obtain ⟨q0, q1, a0, b0, a1, b1⟩ := id_f hp
  simp only [a0, onV_s, b0, bin_geq, f74_g1_4, asB_b, onBool_d]
  unfold hasB
  by_cases c1 : 1 ≤ x.1
  · simp only [c1, if_true, decide_true, Bool.true_and, a0, onV_s, b0, conv53 hx, hs.oLen u58, bin_leq, f74_g1_12, asB_b, onBool_d]
    by_cases c2 : x.1 ≤ t.length
    · simp only [c2, if_true, decide_true, Bool.true_and, a1, onV_s, b1, bin_geq, f74_g1_17, asB_b, onBool_d]
      by_cases c3 : 0 ≤ x.2
      · simp only [c3, if_true, decide_true, Bool.true_and, a0, a1, onV_s, b0, b1, bin_sub]
        rw [Go.IntWalk.u8_in _ (by omega), show x.1 - 1 = (((x.1 - 1).toNat : Nat) : Int) by omega]
        have hlt : (x.1 - 1).toNat < t.length := by omega
        obtain ⟨p, lv, e1, e2, e3⟩ := tb_at hs (k := .u8) hlt
        simp only [e1, e2, onV_s, e3.oLen u59, bin_lss]
        refine Ev.mk ⟨hE, ?_⟩
        simp only [Int.toNat_natCast, List.getElem?_eq_getElem hlt]
      · simp only [c3, if_false, decide_false, Bool.false_and]
        exact Ev.mk ⟨hE, rfl⟩
    · simp only [c2, if_false, decide_false, Bool.false_and]
      exact Ev.mk ⟨hE, rfl⟩
  · simp only [c1, if_false, decide_false, Bool.false_and]
    exact Ev.mk ⟨hE, rfl⟩
theorem has_ok {k : Nat} {v : Value} {t : Tab} {x : Idn} {H : GH} (hs : SlR tyTab H v t) (hx : 0 ≤ x.1 ∧ x.1 ≤ 255) : Ev (C (k + 1) (.func (.func 135) #[] #[]) [v, idV x] H) fun r => Ext H r.2 ∧ r.1 = .bool (hasB t x) := by
  rw [C_func T135, f135_eq]
  unfold f135_sh f135_r1
  have hE : Ext H (H.push (.row (Value.cells (idV x)).toList 29 false)) := Ext.push _ _
  have hp : PtC (H.push (.row (Value.cells (idV x)).toList 29 false)) (.pointer (some ⟨H.n, 0, none⟩)) (idC x) := PtC.new H _ _ _
  have hs := hs.mono hE
  revert hE hp hs
  generalize H.push (.row (Value.cells (idV x)).toList 29 false) = H1
  intro hE hp hs
  obtain ⟨q0, q1, a0, b0, a1, b1⟩ := id_f hp
  simp only [a0, onV_s, b0, bin_geq, f135_g1_4, asB_b, onBool_d]
  unfold hasB
  by_cases c1 : 1 ≤ x.1
  · simp only [c1, if_true, decide_true, Bool.true_and, a0, onV_s, b0, conv53 hx, hs.oLen u58, bin_leq, f135_g1_12, asB_b, onBool_d]
    by_cases c2 : x.1 ≤ t.length
    · simp only [c2, if_true, decide_true, Bool.true_and, a1, onV_s, b1, bin_geq, f135_g1_17, asB_b, onBool_d]
      by_cases c3 : 0 ≤ x.2
      · simp only [c3, if_true, decide_true, Bool.true_and, a0, a1, onV_s, b0, b1, bin_sub]
        rw [Go.IntWalk.u8_in _ (by omega), show x.1 - 1 = (((x.1 - 1).toNat : Nat) : Int) by omega]
        have hlt : (x.1 - 1).toNat < t.length := by omega
        obtain ⟨p, lv, e1, e2, e3⟩ := tb_at hs (k := .u8) hlt
        simp only [e1, e2, onV_s, e3.oLen u59, bin_lss]
        refine Ev.mk ⟨hE, ?_⟩
        simp only [Int.toNat_natCast, List.getElem?_eq_getElem hlt]
      · simp only [c3, if_false, decide_false, Bool.false_and]
        exact Ev.mk ⟨hE, rfl⟩
    · simp only [c2, if_false, decide_false, Bool.false_and]
      exact Ev.mk ⟨hE, rfl⟩
  · simp only [c1, if_false, decide_false, Bool.false_and]
    exact Ev.mk ⟨hE, rfl⟩
end Go.Proofs.Ythicilkmjamefaa
/- The loops' functions: how many loops a loop still needs. -/
namespace Go.Proofs.Ythicilkmjamefaa
open Go.Gh
set_option linter.unusedVariables false
set_option linter.unusedSimpArgs false

def inC (D : List Nat) : List Value := D.map fun (n : Nat) => Value.int .i64 n
theorem u160 : Try.prog.underlying 160 = some (.array 7 3) := Try.underlying160
theorem in_get {D : List Nat} {i : Nat} (h : i < D.length) : (inC D)[i]? = some (.int .i64 D[i]) := by unfold inC; rw [List.getElem?_map, List.getElem?_eq_getElem h]; rfl
theorem in_at {H : GH} {p : Value} {D : List Nat} (h : PtC H p (inC D)) (hl : D.length = 7) {k : IntKind} {i : Nat} (hi : i < 7) : ∃ q, oIndexAddr Try.prog 160 p (.int k i) = some q ∧ gLoad Try.prog 3 q H = some (.int .i64 (D.getD i 0)) ∧ PtC H q [.int .i64 (D.getD i 0)] := by
  refine h.idx1 u160 ld3 (by simp [inC, hl]) hi ?_
  rw [in_get (by omega), List.getD_eq_getElem?_getD, List.getElem?_eq_getElem (by omega)]
  rfl
/-- Is this one not made yet? -/
def nr (D : List Nat) (x : Idn) : Bool := decide (x.2 ≥ (D.getD x.1.toNat 0 : Nat))
section
variable {k k' : Nat} {H : GH} {p5 p7 : Value} {x : LoopD} {D : List Nat}
theorem nd_l11 (hp : LpAt H p7 x) (hD : PtC H p5 (inC D)) (hl : D.length = 7) (hb : ∀ q ∈ x.past, 0 ≤ q.id.1 ∧ q.id.1 ≤ 6) (hx : x.past.length ≤ 1000) : ∀ (r i c : Nat), i ≤ x.past.length → x.past.length - i < r → c + (x.past.length - i) ≤ 100000 →
    Ev (f75_l11 (C k) k' r p5 p7 (.int .i64 c) (.int .i64 i) H) fun z => z = (.int .i64 ((c + (x.past.drop i).countP fun q => nr D q.id : Nat) : Int), H) := by
  intro r
  induction r with
  | zero => intro i c _ h; omega
  | succ r ih =>
    intro i c hi hr hc
    show Ev (f75_l11b (C k) k' (f75_l11 (C k) k' r) p5 p7 (.int .i64 c) (.int .i64 i) H) _
    unfold f75_l11b
    obtain ⟨q0, q1, q2, q3, vT, vP, a0, b0, a1, b1, a2, b2, a3, b3, s1, s2⟩ := lp_f hp
    simp only [a3, onV_s, b3, s2.oLen u60, bin_lss, asB_b, onBool_d]
    by_cases hlt : i < x.past.length
    · rw [if_pos (by omega)]
      unfold f75_r13
      obtain ⟨p, e1, e2, _⟩ := pa_at s2 (k := .i64) hlt
      obtain ⟨w0, w1, w2, c0, d0, _⟩ := pa_f e2
      obtain ⟨z0, z1, g0, h0, g1, h1⟩ := id_f d0
      obtain ⟨hb0, hb1⟩ := hb _ (List.getElem_mem hlt)
      obtain ⟨q, f1, f2, _⟩ := in_at hD hl (k := .u8) (i := x.past[i].id.1.toNat) (by omega)
      rw [show ((x.past[i].id.1.toNat : Nat) : Int) = x.past[i].id.1 by omega] at f1
      simp only [a3, onV_s, b3, e1, c0, g0, g1, h0, h1, f1, f2, bin_geq, asB_b, onBool_d]
      have hd : x.past.drop i = x.past[i] :: x.past.drop (i + 1) := List.drop_eq_getElem_cons hlt
      by_cases hn : ((D.getD x.past[i].id.1.toNat 0 : Nat) : Int) ≤ x.past[i].id.2
      · rw [if_pos hn]
        unfold f75_r14
        simp only [bin_add, onV_s]
        rw [wrS (by omega), wrS (by omega)]
        refine (ih (i + 1) (c + 1) (by omega) (by omega) (by omega)).mono fun z hz => ?_
        rw [hz, hd, List.countP_cons_of_pos (by simpa [nr] using hn)]
        rw [Nat.add_assoc, Nat.add_comm 1]
      · rw [if_neg hn]
        unfold f75_r12
        simp only [bin_add, onV_s]
        rw [wrS (by omega)]
        refine (ih (i + 1) c (by omega) (by omega) (by omega)).mono fun z hz => ?_
        rw [hz, hd, List.countP_cons_of_neg (by simpa [nr] using hn)]
    · rw [if_neg (by omega)]
      rw [List.drop_eq_nil_of_le (by omega)]
      exact Ev.mk rfl
theorem nd_l6 (hp : LpAt H p7 x) (hD : PtC H p5 (inC D)) (hl : D.length = 7) (hbt : ∀ q ∈ x.thr, 0 ≤ q.1 ∧ q.1 ≤ 6) (hb : ∀ q ∈ x.past, 0 ≤ q.id.1 ∧ q.id.1 ≤ 6) (hxt : x.thr.length ≤ 1000) (hx : x.past.length ≤ 1000) (hk : 2000 ≤ k') : ∀ (r i c : Nat), i ≤ x.thr.length → x.thr.length - i < r → c + (x.thr.length - i) ≤ 10000 →
    Ev (f75_l6 (C k) k' r p5 p7 (.int .i64 c) (.int .i64 i) H) fun z => z = (.int .i64 ((c + (x.thr.drop i).countP (nr D) + x.past.countP (fun q => nr D q.id) : Nat) : Int), H) := by
  intro r
  induction r with
  | zero => intro i c _ h; omega
  | succ r ih =>
    intro i c hi hr hc
    show Ev (f75_l6b (C k) k' (f75_l6 (C k) k' r) p5 p7 (.int .i64 c) (.int .i64 i) H) _
    unfold f75_l6b
    obtain ⟨q0, q1, q2, q3, vT, vP, a0, b0, a1, b1, a2, b2, a3, b3, s1, s2⟩ := lp_f hp
    simp only [a2, onV_s, b2, s1.oLen u26, bin_lss, asB_b, onBool_d]
    by_cases hlt : i < x.thr.length
    · rw [if_pos (by omega)]
      unfold f75_r8
      obtain ⟨p, e1, e2, _⟩ := id_at s1 (k := .i64) hlt
      obtain ⟨z0, z1, g0, h0, g1, h1⟩ := id_f e2
      obtain ⟨hb0, hb1⟩ := hbt _ (List.getElem_mem hlt)
      obtain ⟨q, f1, f2, _⟩ := in_at hD hl (k := .u8) (i := x.thr[i].1.toNat) (by omega)
      rw [show ((x.thr[i].1.toNat : Nat) : Int) = x.thr[i].1 by omega] at f1
      simp only [a2, onV_s, b2, e1, g0, g1, h0, h1, f1, f2, bin_geq, asB_b, onBool_d]
      have hd : x.thr.drop i = x.thr[i] :: x.thr.drop (i + 1) := List.drop_eq_getElem_cons hlt
      by_cases hn : ((D.getD x.thr[i].1.toNat 0 : Nat) : Int) ≤ x.thr[i].2
      · rw [if_pos hn]
        unfold f75_r9
        simp only [bin_add, onV_s]
        rw [wrS (by omega), wrS (by omega)]
        refine (ih (i + 1) (c + 1) (by omega) (by omega) (by omega)).mono fun z hz => ?_
        rw [hz, hd, List.countP_cons_of_pos (by simpa [nr] using hn)]
        generalize (x.thr.drop (i + 1)).countP (nr D) = A
        rw [show c + 1 + A = c + (A + 1) by omega]
      · rw [if_neg hn]
        unfold f75_r7
        simp only [bin_add, onV_s]
        rw [wrS (by omega)]
        refine (ih (i + 1) c (by omega) (by omega) (by omega)).mono fun z hz => ?_
        rw [hz, hd, List.countP_cons_of_neg (by simpa [nr] using hn)]
    · rw [if_neg (by omega)]
      unfold f75_r10
      rw [List.drop_eq_nil_of_le (by omega)]
      refine (nd_l11 hp hD hl hb hx k' 0 c (by omega) (by omega) (by omega)).mono fun z hz => ?_
      rw [hz]
      simp
end
/-- How many loops the next loop of a yarn still needs. -/
def needN (D : List Nat) (id : Idn) (x : LoopD) : Nat := (if (D.getD id.1.toNat 0 : Int) < id.2 then 1 else 0) + x.thr.countP (nr D) + x.past.countP fun q => nr D q.id
theorem needs_ok {k : Nat} {v : Value} {t : Tab} {id : Idn} {D : List Nat} {x : LoopD} {y n : Nat} {H : GH} (hk : 2000 ≤ k) (hs : SlR tyTab H v t) (hl : D.length = 7) (hy : y < 6) (hid : id = (((y + 1 : Nat) : Int), (n : Int))) {l : List LoopD} (ht : t[y]? = some l) (hn : l[n]? = some x)
    (hbt : ∀ q ∈ x.thr, 0 ≤ q.1 ∧ q.1 ≤ 6) (hb : ∀ q ∈ x.past, 0 ≤ q.id.1 ∧ q.id.1 ≤ 6) (hxt : x.thr.length ≤ 1000) (hx : x.past.length ≤ 1000) :
    Ev (C (k + 1) (.func (.func 75) #[] #[]) [v, idV id, .agg (inC D).toArray] H) fun r => Ext H r.2 ∧ r.1 = .int .i64 (needN D id x) := by
  rw [C_func T75, f75_eq]
  unfold f75_sh f75_r1
  have hE : Ext H ((GH.push (GH.push H (.row (Value.cells (idV id)).toList 29 false)) (.row (Value.cells (.agg (inC D).toArray)).toList 160 false))) := (Ext.push _ _).push' _
  have hp4 : PtC ((GH.push (GH.push H (.row (Value.cells (idV id)).toList 29 false)) (.row (Value.cells (.agg (inC D).toArray)).toList 160 false))) (.pointer (some ⟨H.n, 0, none⟩)) (idC id) := (PtC.new H _ _ _).mono (Ext.push _ _)
  have hp5 : PtC ((GH.push (GH.push H (.row (Value.cells (idV id)).toList 29 false)) (.row (Value.cells (.agg (inC D).toArray)).toList 160 false))) (.pointer (some ⟨(GH.push H (.row (Value.cells (idV id)).toList 29 false)).n, 0, none⟩)) (inC D) := PtC.new _ _ _ _
  have hs := hs.mono hE
  revert hE hp4 hp5 hs
  generalize (.pointer (some ⟨(GH.push H (.row (Value.cells (idV id)).toList 29 false)).n, 0, none⟩) : Value) = p5
  generalize GH.push (GH.push H (.row (Value.cells (idV id)).toList 29 false)) (.row (Value.cells (.agg (inC D).toArray)).toList 160 false) = H1
  generalize (.pointer (some ⟨H.n, 0, none⟩) : Value) = p4
  intro hE hp4 hp5 hs
  subst hid
  obtain ⟨w0, w1, a0, b0, a1, b1⟩ := id_f hp4
  have hyt : y < t.length := (List.getElem?_eq_some_iff.1 ht).1
  have hnl : n < l.length := (List.getElem?_eq_some_iff.1 hn).1
  have hty : t[y] = l := (List.getElem?_eq_some_iff.1 ht).2
  have hln : l[n] = x := (List.getElem?_eq_some_iff.1 hn).2
  obtain ⟨p, lv, e1, e2, e3⟩ := tb_at hs (k := .u8) hyt
  rw [hty] at e3
  obtain ⟨q, e4, e5⟩ := lp_at e3 (k := .i64) hnl
  rw [hln] at e5
  obtain ⟨cs, e6, e7, e8, e9⟩ := lp_ld e5
  simp only [a0, a1, onV_s, b0, b1, bin_sub]
  rw [Go.IntWalk.u8_in _ (by omega), show (((y + 1 : Nat) : Int) - 1) = ((y : Nat) : Int) by omega]
  simp only [e1, onV_s, e2, e4, e6]
  obtain ⟨H2, f1, f2, f3, f4⟩ := box (P := Try.prog) (t := 62) (H := H1) (v := .agg cs.toArray) (cs := cs) (row := [(.int .u8 0), (.bool false), (.slice none 0 0), (.slice none 0 0)]) (e := 62) (gSize_ld ld62) rfl e8 e9
  simp only [f1, onH_s]
  have hp7 : LpAt H2 (.pointer (some ⟨H1.n, 0, none⟩)) x := ⟨cs, PtC.of f3, tyLp.mono f2 e7⟩
  have hp4 := hp4.mono f2
  have hp5 := hp5.mono f2
  unfold f75_r3
  obtain ⟨w0, w1, a0, b0, a1, b1⟩ := id_f hp4
  obtain ⟨q, g1, g2, _⟩ := in_at hp5 hl (k := .u8) (i := y + 1) (by omega)
  simp only [a0, a1, onV_s, b0, b1, g1, g2, bin_gtr, asB_b, onBool_d]
  have hfin : ∀ c : Nat, c ≤ 1 → Ev (f75_r5 (C k) k p5 (.pointer (some ⟨H1.n, 0, none⟩)) (.int .i64 c) H2) fun r => Ext H r.2 ∧ r.1 = .int .i64 ((c + x.thr.countP (nr D) + x.past.countP (fun q => nr D q.id) : Nat) : Int) := by
    intro c hc
    unfold f75_r5
    refine (nd_l6 hp7 hp5 hl hbt hb hxt hx hk k 0 c (by omega) (by omega) (by omega)).mono fun z hz => ?_
    rw [hz]
    exact ⟨hE.trans f2, rfl⟩
  unfold needN
  simp only [Int.toNat_natCast]
  by_cases hg : ((D.getD (y + 1) 0 : Nat) : Int) < (n : Int)
  · rw [if_pos hg, if_pos hg]
    simp only [bin_add, onV_s]
    exact hfin 1 (Nat.le_refl _)
  · rw [if_neg hg, if_neg hg]
    exact hfin 0 (by omega)
end Go.Proofs.Ythicilkmjamefaa
/- The law's own check of a table, first part: each loop by itself. -/
namespace Go.Proofs.Ythicilkmjamefaa
open Go.Gh
set_option linter.unusedVariables false
set_option linter.unusedSimpArgs false

theorem idEq (a b c d : Int) : quick Try.prog (Op.equal 29 (.agg #[.int .u8 a, .int .i64 b]) (.agg #[.int .u8 c, .int .i64 d])) = some (a == c && b == d) := by
  rw [quick_equal_struct 29 _ _ (by unfold Program.fieldsOf; rw [Try.underlying29]) (by kernel_rfl)]
  simp only [Program.fieldsOf, Try.underlying29]
  refine (quick_eqCons (a := .int .u8 a) (b := .int .u8 c) (r := a == c) (s := (b == d) && true) ?_ ?_ ?_ ?_ ?_).trans (by simp)
  · simp
  · kernel_rfl
  · kernel_rfl
  · exact quick_eqInt' (by omega) Try.underlying5
  refine quick_eqCons (a := .int .i64 b) (b := .int .i64 d) ?_ ?_ ?_ ?_ quick_eqNil
  · simp
  · kernel_rfl
  · kernel_rfl
  · exact quick_eqInt' (by omega) Try.underlying3
theorem idEq' (x y : Idn) : quick Try.prog (Op.equal 29 (idV x) (idV y)) = some (decide (x = y)) := by
  unfold idV
  rw [idEq]
  congr 1
  obtain ⟨a, b⟩ := x
  obtain ⟨c, d⟩ := y
  by_cases h1 : a = c <;> by_cases h2 : b = d <;> simp [h1, h2]
theorem eqId {x y : Idn} : (oBin Try.prog .eql 29 (idV x) (idV y)).filter closed = some (.bool (decide (x = y))) := by
  have h1 : oBin Try.prog .eql 29 (idV x) (idV y) = quick Try.prog (Op.equal 29 (idV x) (idV y) >>= fun r => Pure.pure (Value.bool r)) := by kernel_rfl
  rw [h1, quick_bind, idEq']
  rfl
theorem eqBl {a b : Bool} : (oBin Try.prog .eql 4 (.bool a) (.bool b)).filter closed = some (.bool (decide (a = b))) := by
  cases a <;> cases b <;> kernel_rfl

/-- Where a slice of the call's own stands as it was. -/
theorem Own.ext {α : Type} {A : Ty α} {e : TypeId} {H0 H H' : GH} {v : Value} {xs : List α} (h : Own A e H0 H v xs) (hE : Ext H H') : Own A e H0 H' v xs :=
  h.keep fun b hb => hE.get (h.lt hb).2
theorem flat_id : tyId.Flat := fun _ _ _ _ h => h

def prevOf (ps : List PassD) (i : Nat) : Option PassD := if i = 0 then none else ps[i - 1]?
def cancels (q p : PassD) : Prop := q.id = p.id ∧ q.front = p.front ∧ q.dir ≠ p.dir
def badPass (t : Tab) (prev : Option PassD) (p : PassD) : Prop := 1 < p.dir ∨ hasB t p.id = false ∨ ∃ q, prev = some q ∧ cancels q p
def badPs (t : Tab) (x : LoopD) : Prop := ∃ i p, x.past[i]? = some p ∧ badPass t (prevOf x.past i) p
def badTh (t : Tab) (x : LoopD) : Prop := ∃ q ∈ x.thr, hasB t q = false
def badLp (t : Tab) (n : Nat) (x : LoopD) : Prop := 1 < x.bed ∨ 4 < x.thr.length ∨ (n = 0 ∧ x.new = false) ∨ badPs t x ∨ badTh t x
def Bad (t : Tab) : Prop := ∃ (y : Nat) (l : List LoopD) (n : Nat) (x : LoopD), t[y]? = some l ∧ l[n]? = some x ∧ badLp t n x

section
variable {k k' : Nat} {v0 v3 v4 v6 v8 : Value} {t : Tab} {H0 H : GH} {Q : Value × GH → Prop} {x : LoopD} {names : List Idn} {j i : Nat}
variable {sg5 : Value → Value → Value → GH → M (Value × GH)} {sg8 : Value → Value → Value → Value → GH → M (Value × GH)} {sg14 sg24 : Value → Value → Value → Value → Value → Value → GH → M (Value × GH)}
theorem ck_l24 (hs : SlR tyTab H0 v0 t) (hn : names.length + x.thr.length ≤ 100000) (hx : x.thr.length ≤ 1000) (hj : j ≤ 1000)
    (hbad : badTh t x → ∀ H', Ext H0 H' → Q (.int .i64 1, H'))
    (hgo : ¬ badTh t x → ∀ v' H', Ext H0 H' → Own tyId 29 H0 H' v' (names ++ x.thr) → Ev (sg8 v0 v' v4 (.int .i64 (j + 1 : Nat)) H') Q) :
    ∀ (r i : Nat) (H : GH), i ≤ x.thr.length → x.thr.length - i < r → Ext H0 H → Own tyId 29 H0 H v3 names → LpAt H v6 x → (∀ q ∈ x.thr.take i, hasB t q = true) →
      Ev (f23_l24 (C (k + 1)) k' sg5 sg8 r v0 v3 v4 (.int .i64 j) v6 (.int .i64 i) H) Q := by
  intro r
  induction r with
  | zero => intro i H _ h; omega
  | succ r ih =>
    intro i H hi hr hE ho hp hall
    show Ev (f23_l24b (C (k + 1)) k' sg5 sg8 (f23_l24 (C (k + 1)) k' sg5 sg8 r) v0 v3 v4 (.int .i64 j) v6 (.int .i64 i) H) Q
    unfold f23_l24b
    obtain ⟨q0, q1, q2, q3, vT, vP, a0, b0, a1, b1, a2, b2, a3, b3, s1, s2⟩ := lp_f hp
    simp only [a2, onV_s, b2, s1.oLen u26, bin_lss, asB_b, onBool_d]
    by_cases hlt : i < x.thr.length
    · rw [if_pos (by omega)]
      obtain ⟨p, e1, e2, e3⟩ := id_at s1 (k := .i64) hlt
      simp only [a2, onV_s, b2, e1, id_ld e2]
      refine Ev.call0 (there_ok (hs.mono hE) e3) fun w H' ⟨hE', hw⟩ => ?_
      simp only at hE' hw
      subst hw
      simp only [not_b, onV_s, asB_b, onBool_i]
      cases hh : hasB t x.thr[i] with
      | false =>
        simp only [Bool.not_false, if_true]
        exact Ev.mk (hbad ⟨_, List.getElem_mem hlt, hh⟩ _ (hE.trans hE'))
      | true =>
        simp only [Bool.not_true, Bool.false_eq_true, if_false]
        unfold f23_r25
        simp only [bin_add, onV_s]
        rw [wrS (by omega)]
        refine ih (i + 1) H' (by omega) (by omega) (hE.trans hE') (Own.ext ho hE') (hp.mono hE') fun q hq => ?_
        rw [List.take_succ_eq_append_getElem hlt] at hq
        rcases List.mem_append.1 hq with hq | hq
        · exact hall q hq
        · rw [List.mem_singleton] at hq; rw [hq]; exact hh
    · rw [if_neg (by omega)]
      unfold f23_r28
      obtain ⟨new, hf, hc⟩ := s1.first
      obtain ⟨v', H', g1, g2, g3, _⟩ := Own.append hE ho u26 u26 el29 s1.val hf (hc.flat flat_id) (by omega)
      simp only [a2, onV_s, b2, g1, onVH_s, bin_add]
      rw [wrS (by omega)]
      refine hgo (fun ⟨q, hq, hb⟩ => ?_) v' H' g2 g3
      have := hall q (by rw [List.take_of_length_le (by omega)]; exact hq)
      rw [this] at hb; cases hb
theorem ck_l14 (hs : SlR tyTab H0 v0 t) (hx : x.past.length ≤ 1000)
    (hbad : badPs t x → ∀ H', Ext H0 H' → Q (.int .i64 1, H'))
    (hgo : ¬ badPs t x → ∀ H', Ext H0 H' → Own tyId 29 H0 H' v3 names → LpAt H' v6 x → Ev (f23_r23 (C (k + 1)) k' sg5 sg8 v0 v3 v4 (.int .i64 j) v6 H') Q) :
    ∀ (r i : Nat) (H : GH), i ≤ x.past.length → x.past.length - i < r → Ext H0 H → Own tyId 29 H0 H v3 names → LpAt H v6 x → (∀ n p, n < i → x.past[n]? = some p → ¬ badPass t (prevOf x.past n) p) →
      Ev (f23_l14 (C (k + 1)) k' sg5 sg8 r v0 v3 v4 (.int .i64 j) v6 (.int .i64 i) H) Q := by
  intro r
  induction r with
  | zero => intro i H _ h; omega
  | succ r ih =>
    intro i H hi hr hE ho hp hall
    show Ev (f23_l14b (C (k + 1)) k' sg5 sg8 (f23_l14 (C (k + 1)) k' sg5 sg8 r) v0 v3 v4 (.int .i64 j) v6 (.int .i64 i) H) Q
    unfold f23_l14b
    obtain ⟨q0, q1, q2, q3, vT, vP, a0, b0, a1, b1, a2, b2, a3, b3, s1, s2⟩ := lp_f hp
    simp only [a3, onV_s, b3, s2.oLen u60, bin_lss, asB_b, onBool_d]
    by_cases hlt : i < x.past.length
    · rw [if_pos (by omega)]
      obtain ⟨p, e1, e2, e3⟩ := pa_at s2 (k := .i64) hlt
      obtain ⟨H1, f1, f2, f3, f4⟩ := box (P := Try.prog) (t := 157) (H := H) (v := .agg (paC x.past[i]).toArray) (cs := paC x.past[i]) (row := [(.int .u8 0), (.int .i64 0), (.bool false), (.int .u8 0)]) (e := 157) (gSize_ld ld157) rfl rfl rfl
      simp only [a3, onV_s, b3, e1, pa_ld e2, f1, onH_s]
      have hE1 := hE.trans f2
      have ho1 := Own.ext ho f2
      have hp1 := hp.mono f2
      have h8 := PtC.of f3
      revert hE1 ho1 hp1 h8
      clear f1 f2 f3 f4
      generalize (.pointer (some ⟨H.n, 0, none⟩) : Value) = p8
      intro hE1 ho1 hp1 h8
      -- on, with the next
      have hnext : ¬ badPass t (prevOf x.past i) x.past[i] → ∀ H2, Ext H0 H2 → Own tyId 29 H0 H2 v3 names → LpAt H2 v6 x → Ev (f23_l14 (C (k + 1)) k' sg5 sg8 r v0 v3 v4 (.int .i64 j) v6 (.int .i64 (i + 1 : Nat)) H2) Q :=
        fun hnb H2 hE2 ho2 hp2 => ih (i + 1) H2 (by omega) (by omega) hE2 ho2 hp2 fun n p hn hp => by
          rcases Nat.lt_or_ge n i with h | h
          · exact hall n p h hp
          · have : n = i := by omega
            subst this
            rw [List.getElem?_eq_getElem hlt] at hp
            injection hp with hp
            rw [← hp]; exact hnb
      have hisbad : badPass t (prevOf x.past i) x.past[i] → ∀ H2, Ext H0 H2 → Ev (some [((.int .i64 1 : Value), H2)]) Q := fun hb H2 hE2 => Ev.mk (hbad ⟨i, _, List.getElem?_eq_getElem hlt, hb⟩ _ hE2)
      unfold f23_r17
      obtain ⟨w0, w1, w2, c0, d0, c1, d1, c2, d2⟩ := pa_f h8
      simp only [c2, onV_s, d2, bin_gtr]
      unfold f23_g17_4
      simp only [asB_b, onBool_d]
      by_cases hdir : 1 < x.past[i].dir
      · rw [if_pos hdir]
        exact hisbad (.inl hdir) _ hE1
      rw [if_neg hdir]
      simp only [c0, onV_s, id_ld d0]
      refine Ev.call0 (there_ok (hs.mono hE1) e3) fun w H2 ⟨hE', hw⟩ => ?_
      simp only at hE' hw
      subst hw
      simp only [not_b, onV_s, asB_b, onBool_i]
      have hE2 := hE1.trans hE'
      have ho2 := Own.ext ho1 hE'
      have hp2 := hp1.mono hE'
      have h82 := h8.mono hE'
      cases hh : hasB t x.past[i].id with
      | false =>
        simp only [Bool.not_false, if_true]
        exact hisbad (.inr (.inl hh)) _ hE2
      | true =>
        simp only [Bool.not_true, Bool.false_eq_true, if_false, bin_gtr, onV_s, asB_b, onBool_d]
        by_cases h0 : i = 0
        · rw [if_neg (by omega)]
          simp only [bin_add, onV_s]
          rw [wrS (by omega)]
          refine hnext (fun hb => ?_) H2 hE2 ho2 hp2
          rcases hb with hb | hb | ⟨q, hq, _⟩
          · exact hdir hb
          · rw [hh] at hb; cases hb
          · unfold prevOf at hq; rw [if_pos h0] at hq; cases hq
        · rw [if_pos (by omega)]
          unfold f23_r20
          have hlt1 : i - 1 < x.past.length := by omega
          obtain ⟨q0, q1, q2, q3, vT, vP, a0, b0, a1, b1, a2, b2, a3, b3, s1, s2⟩ := lp_f hp2
          obtain ⟨p, e1, e2, e3⟩ := pa_at s2 (k := .i64) hlt1
          obtain ⟨H3, f1, f2, f3, f4⟩ := box (P := Try.prog) (t := 157) (H := H2) (v := .agg (paC x.past[i - 1]).toArray) (cs := paC x.past[i - 1]) (row := [(.int .u8 0), (.int .i64 0), (.bool false), (.int .u8 0)]) (e := 157) (gSize_ld ld157) rfl rfl rfl
          simp only [a3, onV_s, b3, bin_sub]
          rw [Go.IntWalk.i64_in _ (by omega), show ((i : Int) - 1) = ((i - 1 : Nat) : Int) by omega]
          simp only [onV_s, e1, pa_ld e2, f1, onH_s]
          have hE3 := hE2.trans f2
          have ho3 := Own.ext ho2 f2
          have hp3 := hp2.mono f2
          have h83 := h82.mono f2
          have h93 := PtC.of f3
          have hprev : prevOf x.past i = some x.past[i - 1] := by unfold prevOf; rw [if_neg h0, List.getElem?_eq_getElem hlt1]
          have hgood : ¬ cancels x.past[i - 1] x.past[i] → Ev (f23_r15 (C (k + 1)) k' sg5 sg8 (f23_l14 (C (k + 1)) k' sg5 sg8 r) v0 v3 v4 (.int .i64 j) v6 (.int .i64 i) H3) Q := fun hnc => by
            unfold f23_r15
            simp only [bin_add, onV_s]
            rw [wrS (by omega)]
            refine hnext (fun hb => ?_) H3 hE3 ho3 hp3
            rcases hb with hb | hb | ⟨q, hq, hc⟩
            · exact hdir hb
            · rw [hh] at hb; cases hb
            · rw [hprev] at hq; injection hq with hq; rw [hq] at hnc; exact hnc hc
          unfold f23_r21
          obtain ⟨w0, w1, w2, c0, d0, c1, d1, c2, d2⟩ := pa_f h83
          obtain ⟨z0, z1, z2, g0, h0', g1, h1, g2, h2⟩ := pa_f h93
          simp only [c0, g0, onV_s, id_ld d0, id_ld h0', eqId]
          unfold f23_g21_6
          simp only [asB_b, onBool_d]
          by_cases hid : x.past[i - 1].id = x.past[i].id
          · rw [if_pos hid]
            simp only [c1, d1, g1, h1, onV_s, eqBl]
            unfold f23_g21_13
            simp only [asB_b, onBool_d]
            by_cases hfr : x.past[i - 1].front = x.past[i].front
            · rw [if_pos hfr]
              simp only [c2, d2, g2, h2, onV_s, bin_neq, asB_b, onBool_d]
              by_cases hdr : x.past[i - 1].dir ≠ x.past[i].dir
              · rw [if_pos hdr]
                exact hisbad (.inr (.inr ⟨_, hprev, hid, hfr, hdr⟩)) _ hE3
              · rw [if_neg hdr]
                exact hgood fun hc => hdr hc.2.2
            · rw [if_neg hfr]
              exact hgood fun hc => hfr hc.2.1
          · rw [if_neg hid]
            exact hgood fun hc => hid hc.1
    · rw [if_neg (by omega)]
      refine hgo (fun ⟨n, p, hn, hb⟩ => ?_) H hE ho hp
      exact hall n p (by have := (List.getElem?_eq_some_iff.1 hn).1; omega) hn hb
/-- One loop. -/
theorem ck_one (hs : SlR tyTab H0 v0 t) (hn : names.length + x.thr.length ≤ 100000) (hxp : x.past.length ≤ 1000) (hx : x.thr.length ≤ 1000) (hj : j ≤ 1000) (hk : 2000 ≤ k')
    (hbad : badLp t j x → ∀ H', Ext H0 H' → Q (.int .i64 1, H'))
    (hgo : ¬ badLp t j x → ∀ v' H', Ext H0 H' → Own tyId 29 H0 H' v' (names ++ x.thr) → Ev (sg8 v0 v' v4 (.int .i64 (j + 1 : Nat)) H') Q)
    (hE : Ext H0 H) (ho : Own tyId 29 H0 H v3 names) (hp : LpAt H v6 x) : Ev (f23_r11 (C (k + 1)) k' sg5 sg8 v0 v3 v4 (.int .i64 j) v6 H) Q := by
  unfold f23_r11
  obtain ⟨q0, q1, q2, q3, vT, vP, a0, b0, a1, b1, a2, b2, a3, b3, s1, s2⟩ := lp_f hp
  simp only [a0, onV_s, b0, bin_gtr]
  unfold f23_g11_4
  simp only [asB_b, onBool_d]
  by_cases h1 : 1 < x.bed
  · rw [if_pos h1]; exact Ev.mk (hbad (.inl h1) _ hE)
  rw [if_neg h1]
  simp only [a2, onV_s, b2, s1.oLen u26, bin_gtr]
  unfold f23_g11_10
  simp only [asB_b, onBool_d]
  by_cases h2 : 4 < x.thr.length
  · rw [if_pos (by omega)]; exact Ev.mk (hbad (.inr (.inl h2)) _ hE)
  rw [if_neg (by omega)]
  have hrest : ¬ (j = 0 ∧ x.new = false) → Ev (f23_l14 (C (k + 1)) k' sg5 sg8 k' v0 v3 v4 (.int .i64 j) v6 (.int .i64 (0 : Nat)) H) Q := fun h3 => by
    refine ck_l14 hs hxp (fun hb H' hE' => hbad (.inr (.inr (.inr (.inl hb)))) H' hE') (fun hnb H' hE' ho' hp' => ?_) k' 0 H (by omega) (by omega) hE ho hp fun n p hn => by omega
    unfold f23_r23
    refine ck_l24 hs hn hx hj (fun hb H'' hE'' => hbad (.inr (.inr (.inr (.inr hb)))) H'' hE'') (fun hnt v' H'' hE'' ho'' => hgo (fun hb => ?_) v' H'' hE'' ho'') k' 0 H' (by omega) (by omega) hE' ho' hp' (by simp)
    rcases hb with hb | hb | hb | hb | hb
    · exact h1 hb
    · exact h2 hb
    · exact h3 hb
    · exact hnb hb
    · exact hnt hb
  simp only [bin_eql, onV_s]
  unfold f23_g11_13
  simp only [asB_b, onBool_d]
  by_cases h3 : j = 0
  · rw [if_pos (by omega)]
    simp only [a1, b1, onV_s, not_b, asB_b, onBool_i]
    cases hnw : x.new with
    | false => simp only [Bool.not_false, if_true]; exact Ev.mk (hbad (.inr (.inr (.inl ⟨h3, hnw⟩))) _ hE)
    | true =>
      simp only [Bool.not_true, Bool.false_eq_true, if_false]
      exact hrest fun h => by rw [hnw] at h; cases h.2
  · rw [if_neg (by omega)]
    exact hrest fun h => h3 h.1
end
end Go.Proofs.Ythicilkmjamefaa
