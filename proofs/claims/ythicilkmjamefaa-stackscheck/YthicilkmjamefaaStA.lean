/- The stacks' functions: what each comes to. -/
import Derived.Test.YthicilkmjamefaaGnEq
import Derived.Test.YthicilkmjamefaaShT
import Derived.Test.YthicilkmjamefaaShStacks
namespace Go.Proofs.Ythicilkmjamefaa
open Go.Gh
set_option linter.unusedVariables false
set_option linter.unusedSimpArgs false

/-- The handle by which functions call. -/
noncomputable def C (k : Nat) : Handle := gCallC Try.prog fnT clo k
theorem C_func {k f : Nat} {fn : Func} {args : List Value} {H : GH} (h : fnT f = some fn) : C (k + 1) (.func (.func f) #[] #[]) args H = gFunc Try.prog (C k) k fn args H := by
  show (match fnT f with | some fn => gFunc Try.prog (C k) k fn (#[].toList ++ args ++ #[].toList) H | none => _) = _
  rw [h]
  simp
theorem C_clos {k f : Nat} {fn : Func} {cs : Array Value} {args : List Value} {H : GH} (h : fnT f = some fn) : C (k + 1) (.func (.func f) #[] cs) args H = gFunc Try.prog (C k) k fn (args ++ cs.toList) H := by
  show (match fnT f with | some fn => gFunc Try.prog (C k) k fn (#[].toList ++ args ++ cs.toList) H | none => _) = _
  rw [h]
  simp
theorem C_yield {k L : Nat} {args : List Value} {H : GH} {tmps : List Value} {ps : List Tmp} {asg bd : Code} (h : H.get L = some (.loop .ready none tmps ps asg bd)) (hl : args.length = ps.length) :
    C (k + 1) (.func (.yield L) #[] #[]) args H = gCode Try.prog (C k) k asg (gAssign ps args tmps) H (hBegin Try.prog (C k) k L bd) := by
  show gRound Try.prog (C k) k L args H = _
  unfold gRound
  rw [h]
  simp only [if_pos hl]
theorem C_none {k f : Nat} {v : Value} {H : GH} (h : fnT f = none) (hc : clo f = some v) : C (k + 1) (.func (.func f) #[] #[]) [] H = some [(v, H)] := by
  show (match fnT f with | some fn => _ | none => match clo f, (#[].toList ++ [] ++ #[].toList : List Value) with | some v, [] => some [(v, H)] | _, _ => none) = _
  rw [h, hc]
  rfl

/-- A name of a loop: its yarn, its number. -/
abbrev Idn := Int × Int
def idC (x : Idn) : List Value := [.int .u8 x.1, .int .i64 x.2]
def tyId : Ty Idn where
  sz := 2
  rep _ cs x := cs = idC x
  len h := by subst h; rfl
  one h := by subst h; rfl
  mono _ h := h
/-- A slice, as an element. -/
def tySl {α : Type} (A : Ty α) : Ty (List α) where
  sz := 1
  rep H cs xs := ∃ v, cs = [v] ∧ SlR A H v xs
  len h := by obtain ⟨v, rfl, _⟩ := h; rfl
  one h := by obtain ⟨v, rfl, h⟩ := h; obtain ⟨a, c, rfl⟩ := h.val; rfl
  mono hE h := by obtain ⟨v, rfl, h⟩ := h; exact ⟨v, rfl, h.mono hE⟩

theorem ld29 : ldOk Try.prog 29 true 2 = true := by kernel_rfl
theorem ld5 : ldOk Try.prog 5 false 1 = true := by kernel_rfl
theorem ld3 : ldOk Try.prog 3 false 1 = true := by kernel_rfl
theorem ld26 : ldOk Try.prog 26 false 1 = true := by kernel_rfl
theorem ld22 : ldOk Try.prog 22 false 1 = true := by kernel_rfl
theorem ld24 : ldOk Try.prog 24 true 2 = true := by kernel_rfl
theorem fd29_0 : fdOk Try.prog 29 0 0 1 = true := by kernel_rfl
theorem fd29_1 : fdOk Try.prog 29 1 1 1 = true := by kernel_rfl
theorem fd24_0 : fdOk Try.prog 24 0 0 1 = true := by kernel_rfl
theorem fd24_1 : fdOk Try.prog 24 1 1 1 = true := by kernel_rfl
theorem el29 : elemOk Try.prog 29 2 = true := by kernel_rfl
theorem el26 : elemOk Try.prog 26 1 = true := by kernel_rfl
theorem u26 : Try.prog.underlying 26 = some (.slice 29) := Try.underlying26
theorem u22 : Try.prog.underlying 22 = some (.slice 26) := Try.underlying22

theorem PtC.new (H : GH) (cs : List Value) (e : TypeId) (ro : Bool) : PtC (H.push (.row cs e ro)) (.pointer (some ⟨H.n, 0, none⟩)) cs :=
  ⟨H.n, 0, cs, e, ro, rfl, GH.get_push_new, by omega, by simp⟩

/-- Is a name valid? -/
def named (x : Idn) : Bool := decide (1 ≤ x.1) && (decide (x.1 ≤ 6) && (decide (0 ≤ x.2) && decide (x.2 < 2048)))
theorem named_ok (k : Nat) (x : Idn) (H : GH) : Ev (C (k + 1) (.func (.func 48) #[] #[]) [.agg #[.int .u8 x.1, .int .i64 x.2]] H) fun r => Ext H r.2 ∧ r.1 = .bool (named x) := by
  rw [C_func T48, f48_eq]
  unfold f48_sh f48_r1
  have hp : PtC (H.push (.row (Value.cells (.agg #[.int .u8 x.1, .int .i64 x.2])).toList 29 false)) (.pointer (some ⟨H.n, 0, none⟩)) [.int .u8 x.1, .int .i64 x.2] := PtC.new H _ _ _
  have hE := Ext.push H (.row (Value.cells (.agg #[.int .u8 x.1, .int .i64 x.2])).toList 29 false)
  obtain ⟨q0, h0, p0⟩ := hp.field fd29_0 (by simp)
  obtain ⟨q1, h1, p1⟩ := hp.field fd29_1 (by simp)
  have l0 := PtC.load1 (c := .int .u8 x.1) p0 ld5
  have l1 := PtC.load1 (c := .int .i64 x.2) p1 ld3
  simp only [h0, onV_s, l0, bin_geq, f48_g1_4, asB_b, onBool_d]
  unfold named
  by_cases c1 : 1 ≤ x.1
  · simp only [c1, if_true, decide_true, Bool.true_and, bin_leq, h0, onV_s, l0, f48_g1_9, asB_b, onBool_d]
    by_cases c2 : x.1 ≤ 6
    · simp only [c2, if_true, decide_true, Bool.true_and, h1, onV_s, l1, bin_geq, f48_g1_14, asB_b, onBool_d]
      by_cases c3 : 0 ≤ x.2
      · simp only [c3, if_true, decide_true, Bool.true_and, h1, onV_s, l1, bin_lss]
        exact Ev.mk ⟨hE, rfl⟩
      · simp only [c3, if_false, decide_false, Bool.false_and]
        exact Ev.mk ⟨hE, rfl⟩
    · simp only [c2, if_false, decide_false, Bool.false_and, f48_g1_14, asB_b, onBool_f]
      exact Ev.mk ⟨hE, rfl⟩
  · simp only [c1, if_false, decide_false, Bool.false_and, f48_g1_9, f48_g1_14, asB_b, onBool_f]
    exact Ev.mk ⟨hE, rfl⟩
theorem idEq (a b c d : Int) : quick Try.prog (Op.equal 29 (.agg #[.int .u8 a, .int .i64 b]) (.agg #[.int .u8 c, .int .i64 d])) = some (a == c && b == d) := by
  rw [quick_equal_struct 29 _ _ (by unfold Program.fieldsOf; rw [Try.underlying29]) (by kernel_rfl)]
  simp only [Program.fieldsOf, Try.underlying29]
  refine (quick_eqCons (a := .int .u8 a) (b := .int .u8 c) (r := a == c) (s := (b == d) && true) ?_ ?_ ?_ ?_ ?_).trans (by simp)
  · simp
  · kernel_rfl
  · kernel_rfl
  · exact quick_eqInt' (by omega) Try.underlying5
  refine quick_eqCons (a := .int .i64 b) (b := .int .i64 d) ?_ ?_ ?_ ?_ quick_eqNil
  · simp
  · kernel_rfl
  · kernel_rfl
  · exact quick_eqInt' (by omega) Try.underlying3

/-- A name, as a value. -/
def idV (x : Idn) : Value := .agg #[.int .u8 x.1, .int .i64 x.2]
theorem idEq' (x y : Idn) : quick Try.prog (Op.equal 29 (idV x) (idV y)) = some (decide (x = y)) := by
  unfold idV
  rw [idEq]
  congr 1
  obtain ⟨a, b⟩ := x
  obtain ⟨c, d⟩ := y
  by_cases h1 : a = c <;> by_cases h2 : b = d <;> simp [h1, h2]
theorem idKey (x : Idn) : gKeyOk Try.prog 29 (idV x) = true := by
  have h : gKeyOk Try.prog 29 (idV x) = Instr.sameBits 10000 (idV x) (idV x) := by kernel_rfl
  rw [h]
  simp [idV, Instr.sameBits]
/-- A set of names, as a map's entries. -/
def setE : List Idn → Nat → List MapEntry
  | [], _ => []
  | x :: r, i => { key := idV x, val := .bool true, born := i } :: setE r (i + 1)
theorem setE_append (ids : List Idn) (x : Idn) (j : Nat) : setE (ids ++ [x]) j = setE ids j ++ [{ key := idV x, val := .bool true, born := j + ids.length }] := by
  induction ids generalizing j with
  | nil => simp [setE]
  | cons y r ih =>
    simp only [List.cons_append, setE, ih, List.length_cons]
    rw [show j + 1 + r.length = j + (r.length + 1) by omega]
theorem find_no {x : Idn} : ∀ (ids : List Idn) (j n : Nat), x ∉ ids → gFind Try.prog 29 (idV x) (setE ids j) n = some none := by
  intro ids
  induction ids with
  | nil => intro j n _; rfl
  | cons y r ih =>
    intro j n h
    simp only [List.mem_cons, not_or] at h
    unfold setE gFind
    simp only [idEq', decide_eq_false h.1]
    exact ih _ _ h.2
theorem find_yes {x : Idn} : ∀ (ids : List Idn) (j n : Nat), x ∈ ids → ∃ i e, gFind Try.prog 29 (idV x) (setE ids j) n = some (some (i, e)) ∧ e.val = .bool true := by
  intro ids
  induction ids with
  | nil => intro j n h; cases h
  | cons y r ih =>
    intro j n h
    unfold setE gFind
    by_cases hxy : x = y
    · simp only [idEq', decide_eq_true hxy]
      exact ⟨_, _, rfl, rfl⟩
    · simp only [idEq', decide_eq_false hxy]
      exact ih _ _ ((List.mem_cons.1 h).resolve_left hxy)
theorem set_look {H : GH} {M clock : Nat} {ids : List Idn} (x : Idn) (h : H.get M = some (.map (setE ids 0) clock)) : gLookup Try.prog 205 (.map (some M)) (idV x) false H = some (.bool (decide (x ∈ ids))) := by
  unfold gLookup
  have z : gZero Try.prog 4 = some (.bool false) := by kernel_rfl
  simp only [Try.underlying205, idKey, if_true, gMap, h, Option.map_some, z]
  by_cases hx : x ∈ ids
  · obtain ⟨i, e, he, hv⟩ := find_yes ids 0 0 hx
    simp only [he, hv, decide_eq_true hx, Bool.false_eq_true, if_false]
  · simp only [find_no ids 0 0 hx, decide_eq_false hx, Bool.false_eq_true, if_false]
theorem set_put {H : GH} {M : Nat} {ids : List Idn} (x : Idn) (hx : x ∉ ids) (h : H.get M = some (.map (setE ids 0) ids.length)) :
    gMapUpdate Try.prog 205 (.map (some M)) (idV x) (.bool true) H = some (H.set M (.map (setE (ids ++ [x]) 0) (ids ++ [x]).length)) := by
  unfold gMapUpdate
  simp only [Try.underlying205, gMap, h, idKey, if_true, find_no ids 0 0 hx, setE_append, Nat.zero_add, List.length_append, List.length_cons, List.length_nil]

/-- A store that takes the place of a whole row. -/
theorem store_row {t : TypeId} {H : GH} {b : Nat} {row : List Value} {e : TypeId} {v : Value} {sz : Nat} (hg : H.get b = some (.row row e false)) (hs : gSize Try.prog t = some sz) (h1 : row.length = sz) (h2 : v.cells.size = sz) (h3 : v.cells.toList.all oneC = true) :
    gStore Try.prog t (.pointer (some ⟨b, 0, none⟩)) v H = some (H.set b (.row v.cells.toList e false)) := by
  unfold gStore
  simp only [hs, h2, if_true]
  unfold gStoreCells
  simp only [hg]
  have hl : v.cells.toList.length = row.length := by rw [Array.length_toList, h2, h1]
  rw [if_pos ⟨by omega, h3⟩]
  unfold putAt
  rw [List.take_zero, List.nil_append, Nat.zero_add, hl, List.drop_length, List.append_nil]
theorem PtC.of {H : GH} {b : Nat} {row : List Value} {e : TypeId} {ro : Bool} (h : H.get b = some (.row row e ro)) : PtC H (.pointer (some ⟨b, 0, none⟩)) row := ⟨b, 0, row, e, ro, rfl, h, by omega, by simp⟩
end Go.Proofs.Ythicilkmjamefaa
