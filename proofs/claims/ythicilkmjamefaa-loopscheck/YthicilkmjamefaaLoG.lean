/- The program's functions on passes: equality, the way back, what cancels; copies; questions on lists. -/
import Derived.Test.YthicilkmjamefaaLoD
import Derived.Test.YthicilkmjamefaaGpShCall
namespace Go.Proofs.Ythicilkmjamefaa
open Go.Gh
set_option linter.unusedVariables false
set_option linter.unusedSimpArgs false

theorem idEqAt (d : Nat) (hd : 0 < d) (x y : Idn) : quick Try.prog (Op.equalIn (d + 1) 29 (idV x) (idV y)) = some (decide (x = y)) := by
  unfold idV
  rw [quick_eqFields d 29 _ _ (by unfold Program.fieldsOf; rw [Try.underlying29]) (by kernel_rfl)]
  simp only [Program.fieldsOf, Try.underlying29]
  refine (quick_eqCons (a := .int .u8 x.1) (b := .int .u8 y.1) (r := x.1 == y.1) (s := (x.2 == y.2) && true) ?_ ?_ ?_ ?_ ?_).trans ?_
  · simp
  · kernel_rfl
  · kernel_rfl
  · exact quick_eqInt' hd Try.underlying5
  · refine quick_eqCons (a := .int .i64 x.2) (b := .int .i64 y.2) ?_ ?_ ?_ ?_ quick_eqNil
    · simp
    · kernel_rfl
    · kernel_rfl
    · exact quick_eqInt' hd Try.underlying3
  · congr 1
    obtain ⟨a, b⟩ := x
    obtain ⟨c, d⟩ := y
    by_cases h1 : a = c <;> by_cases h2 : b = d <;> simp [h1, h2]
def paV (x : PassD) : Value := .agg (paC x).toArray
theorem paEq (x y : PassD) : quick Try.prog (Op.equal 157 (paV x) (paV y)) = some (decide (x.id = y.id) && (x.front == y.front && (x.dir == y.dir))) := by
  unfold paV
  rw [quick_equal_struct 157 _ _ (by unfold Program.fieldsOf; rw [Try.underlying157]) (by kernel_rfl)]
  simp only [Program.fieldsOf, Try.underlying157]
  refine (quick_eqCons (a := idV x.id) (b := idV y.id) (r := decide (x.id = y.id)) (s := (x.front == y.front) && ((x.dir == y.dir) && true)) ?_ ?_ ?_ ?_ ?_).trans ?_
  · simp
  · kernel_rfl
  · kernel_rfl
  · exact idEqAt 9998 (by omega) x.id y.id
  · refine quick_eqCons (a := .bool x.front) (b := .bool y.front) ?_ ?_ ?_ ?_ ?_
    · simp
    · kernel_rfl
    · kernel_rfl
    · exact quick_eqBool' (by omega) Try.underlying4
    · refine quick_eqCons (a := .int .u8 x.dir) (b := .int .u8 y.dir) ?_ ?_ ?_ ?_ quick_eqNil
      · simp
      · kernel_rfl
      · kernel_rfl
      · exact quick_eqInt' (by omega) Try.underlying155
  · simp
theorem eqPa {x y : PassD} : (oBin Try.prog .eql 157 (paV x) (paV y)).filter closed = some (.bool (decide (x.id = y.id) && (x.front == y.front && (x.dir == y.dir)))) := by
  have h1 : oBin Try.prog .eql 157 (paV x) (paV y) = quick Try.prog (Op.equal 157 (paV x) (paV y) >>= fun r => Pure.pure (Value.bool r)) := by kernel_rfl
  rw [h1, quick_bind, paEq]
  rfl
/-- The way back. -/
def back (p : PassD) : PassD := { p with dir := if p.dir = 1 then 0 else 1 }
theorem back_ok {k : Nat} {p : PassD} {H : GH} : Ev (C (k + 1) (.func (.func 174) #[] #[]) [paV p] H) fun r => Ext H r.2 ∧ r.1 = paV (back p) := by
  rw [C_func T174, f174_eq]
  unfold f174_sh
  have hc : (Value.cells (paV p)).toList = paC p := rfl
  rw [hc]
  have hE2 : Ext H ((H.push (.row (paC p) 157 false)).push (.row [(.int .u8 0), (.int .i64 0), (.bool false), (.int .u8 0)] 157 false)) := (Ext.push _ _).push' _
  have hg0 : ((H.push (.row (paC p) 157 false)).push (.row [(.int .u8 0), (.int .i64 0), (.bool false), (.int .u8 0)] 157 false)).get H.n = some (.row (paC p) 157 false) :=
    (GH.get_push_old (Nat.lt_succ_self _)).trans GH.get_push_new
  have hg1 : ((H.push (.row (paC p) 157 false)).push (.row [(.int .u8 0), (.int .i64 0), (.bool false), (.int .u8 0)] 157 false)).get (H.n + 1) = some (.row [(.int .u8 0), (.int .i64 0), (.bool false), (.int .u8 0)] 157 false) := GH.get_push_new
  have hn : ((H.push (.row (paC p) 157 false)).n) = H.n + 1 := rfl
  rw [hn]
  revert hE2 hg0 hg1
  generalize (H.push (.row (paC p) 157 false)).push (.row [(.int .u8 0), (.int .i64 0), (.bool false), (.int .u8 0)] 157 false) = H2
  intro hE2 hg0 hg1
  have hl0 : gLoad Try.prog 155 (.pointer (some ⟨H.n, 3, none⟩)) H2 = some (.int .u8 p.dir) := PtC.load1 (P := Try.prog) (t := 155) ⟨H.n, 3, _, _, _, rfl, hg0, by simp [paC], rfl⟩ ld155
  have hs155 : gSize Try.prog 155 = some 1 := gSize_ld ld155
  have hs157 : gSize Try.prog 157 = some 4 := gSize_ld ld157
  have hset : ∀ d : Int, gStore Try.prog 155 (.pointer (some ⟨H.n, 3, none⟩)) (.int .u8 d) H2 = some (H2.set H.n (.row (paC { p with dir := d }) 157 false)) := fun d => store1 hg0 hs155 rfl rfl (by simp [paC])
  have hend : ∀ d : Int, Ev (onV (gLoad Try.prog 157 (.pointer (some ⟨H.n, 0, none⟩)) (H2.set H.n (.row (paC { p with dir := d }) 157 false))) fun v4 =>
      onH (gStore Try.prog 157 (.pointer (some ⟨H.n + 1, 0, none⟩)) v4 (H2.set H.n (.row (paC { p with dir := d }) 157 false))) fun H5 =>
      onV (gResL Try.prog H5 [((.pointer (some ⟨H.n + 1, 0, none⟩)), some 157)]) fun v => some [(v, H5)]) fun r => Ext H r.2 ∧ r.1 = paV { p with dir := d } := by
    intro d
    have g0 : (H2.set H.n (.row (paC { p with dir := d }) 157 false)).get H.n = some (.row (paC { p with dir := d }) 157 false) := GH.get_set_same hg0
    have g1 : (H2.set H.n (.row (paC { p with dir := d }) 157 false)).get (H.n + 1) = some (.row [(.int .u8 0), (.int .i64 0), (.bool false), (.int .u8 0)] 157 false) := (GH.get_set_other (by omega) (GH.get_lt hg0)).trans hg1
    simp only [pa_ld (PtC.of g0), onV_s]
    rw [storeAll (cs := paC { p with dir := d }) g1 hs157 rfl rfl rfl rfl]
    simp only [onH_s, gResL1]
    rw [pa_ld (PtC.of (GH.get_set_same g1))]
    refine Ev.mk ⟨?_, rfl⟩
    exact (hE2.set (Nat.le_refl _) (GH.get_lt hg0) _).set (Nat.le_succ _) (GH.get_lt g1) _
  simp only [hl0, onV_s, bin_eql, asB_b, onBool_d]
  unfold back
  by_cases hd : p.dir = 1
  · rw [if_pos hd, if_pos hd, hset 0]
    exact hend 0
  · rw [if_neg hd, if_neg hd, hset 1]
    exact hend 1

/-! ### Questions on lists -/
/-- A function value that answers a question on names, over heaps that grew from this one. -/
def PredOk (k : Nat) (pv : Value) (p : Idn → Bool) (H0 : GH) (S : Idn → Prop) : Prop := ∀ x H, Ext H0 H → S x → Ev (C k pv [idV x] H) fun r => Ext H r.2 ∧ r.1 = .bool (p x)
def PredPa (k : Nat) (pv : Value) (p : PassD → Bool) (H0 : GH) (S : PassD → Prop) : Prop := ∀ x H, Ext H0 H → S x → Ev (C k pv [paV x] H) fun r => Ext H r.2 ∧ r.1 = .bool (p x)
theorem idxf_loop {k k' : Nat} {pv v : Value} {p : Idn → Bool} {H0 : GH} {xs : List Idn} (hp : PredOk k pv p H0 fun x => x ∈ xs ∧ 0 ≤ x.1 ∧ x.1 ≤ 255) (hl : xs.length ≤ 1000000000) (hs : SlR tyId H0 v xs) : ∀ (r i : Nat) (H : GH), i ≤ xs.length → xs.length - i < r → Ext H0 H →
    Ev (f118_l2 (C k) k' r v pv (.int .i64 xs.length) (.int .i64 i) H) fun x => Ext H x.2 ∧ ∃ n : Int, x.1 = .int .i64 n ∧ (decide (0 ≤ n) = (xs.drop i).any p) := by
  intro r
  induction r with
  | zero => intro i H _ h; omega
  | succ r ih =>
    intro i H hi hr hE
    show Ev (f118_l2b (C k) k' (f118_l2 (C k) k' r) v pv (.int .i64 xs.length) (.int .i64 i) H) _
    unfold f118_l2b
    simp only [bin_lss, onV_s, asB_b, onBool_d]
    by_cases hlt : i < xs.length
    · rw [if_pos (by omega)]
      obtain ⟨q, h1, h2, h3⟩ := id_at (hs.mono hE) (k := .i64) hlt
      simp only [h1, onV_s, id_ld h2]
      refine Ev.call0 (hp _ H hE ⟨List.getElem_mem hlt, h3⟩) fun w H' ⟨hE', hw⟩ => ?_
      simp only at hE' hw
      subst hw
      simp only [asB_b, onBool_i]
      have hd : xs.drop i = xs[i] :: xs.drop (i + 1) := List.drop_eq_getElem_cons hlt
      by_cases hpx : p xs[i] = true
      · rw [if_pos hpx]
        exact Ev.mk ⟨hE', i, rfl, by rw [hd, List.any_cons, hpx]; simp⟩
      · rw [if_neg hpx]
        simp only [bin_add, onV_s]
        rw [wrS (by omega)]
        refine (ih (i + 1) H' (by omega) (by omega) (hE.trans hE')).mono fun x hx => ⟨hE'.trans hx.1, ?_⟩
        obtain ⟨n, h1, h2⟩ := hx.2
        refine ⟨n, h1, ?_⟩
        rw [h2, hd, List.any_cons]
        simp [hpx]
    · rw [if_neg (by omega)]
      have : xs.drop i = [] := List.drop_eq_nil_of_le (by omega)
      exact Ev.mk ⟨.refl _, -1, rfl, by rw [this]; rfl⟩
theorem contf_ok {k : Nat} {pv v : Value} {p : Idn → Bool} {H : GH} {xs : List Idn} (hp : PredOk k pv p H fun x => x ∈ xs ∧ 0 ≤ x.1 ∧ x.1 ≤ 255) (hl : xs.length ≤ 1000000000) (hk : xs.length < k) (hs : SlR tyId H v xs) :
    Ev (C (k + 2) (.func (.func 46) #[] #[]) [v, pv] H) fun x => Ext H x.2 ∧ x.1 = .bool (xs.any p) := by
  rw [C_func T46, f46_eq]
  unfold f46_sh
  have h1 : Ev (C (k + 1) (.func (.func 118) #[] #[]) [v, pv] H) fun x => Ext H x.2 ∧ ∃ n : Int, x.1 = .int .i64 n ∧ (decide (0 ≤ n) = xs.any p) := by
    rw [C_func T118, f118_eq]
    unfold f118_sh
    simp only [hs.oLen u26, onV_s]
    exact idxf_loop hp hl hs k 0 H (by omega) (by omega) (.refl _)
  refine Ev.call0 h1 fun w H' ⟨hE, n, hw, hn⟩ => ?_
  have hw : w = .int .i64 n := hw
  subst hw
  simp only [bin_geq, onV_s, hn]
  exact Ev.mk ⟨hE, rfl⟩
theorem idxp_loop {k k' : Nat} {pv v : Value} {p : PassD → Bool} {H0 : GH} {xs : List PassD} (hp : PredPa k pv p H0 fun x => x ∈ xs ∧ 0 ≤ x.id.1 ∧ x.id.1 ≤ 255) (hl : xs.length ≤ 1000000000) (hs : SlR tyPa H0 v xs) : ∀ (r i : Nat) (H : GH), i ≤ xs.length → xs.length - i < r → Ext H0 H →
    Ev (f173_l2 (C k) k' r v pv (.int .i64 xs.length) (.int .i64 i) H) fun x => Ext H x.2 ∧ ∃ n : Int, x.1 = .int .i64 n ∧ (decide (0 ≤ n) = (xs.drop i).any p) := by
  intro r
  induction r with
  | zero => intro i H _ h; omega
  | succ r ih =>
    intro i H hi hr hE
    show Ev (f173_l2b (C k) k' (f173_l2 (C k) k' r) v pv (.int .i64 xs.length) (.int .i64 i) H) _
    unfold f173_l2b
    simp only [bin_lss, onV_s, asB_b, onBool_d]
    by_cases hlt : i < xs.length
    · rw [if_pos (by omega)]
      obtain ⟨q, h1, h2, h3⟩ := pa_at (hs.mono hE) (k := .i64) hlt
      simp only [h1, onV_s, pa_ld h2]
      refine Ev.call0 (hp _ H hE ⟨List.getElem_mem hlt, h3⟩) fun w H' ⟨hE', hw⟩ => ?_
      simp only at hE' hw
      subst hw
      simp only [asB_b, onBool_i]
      have hd : xs.drop i = xs[i] :: xs.drop (i + 1) := List.drop_eq_getElem_cons hlt
      by_cases hpx : p xs[i] = true
      · rw [if_pos hpx]
        exact Ev.mk ⟨hE', i, rfl, by rw [hd, List.any_cons, hpx]; simp⟩
      · rw [if_neg hpx]
        simp only [bin_add, onV_s]
        rw [wrS (by omega)]
        refine (ih (i + 1) H' (by omega) (by omega) (hE.trans hE')).mono fun x hx => ⟨hE'.trans hx.1, ?_⟩
        obtain ⟨n, h1, h2⟩ := hx.2
        refine ⟨n, h1, ?_⟩
        rw [h2, hd, List.any_cons]
        simp [hpx]
    · rw [if_neg (by omega)]
      have : xs.drop i = [] := List.drop_eq_nil_of_le (by omega)
      exact Ev.mk ⟨.refl _, -1, rfl, by rw [this]; rfl⟩
theorem contp_ok {k : Nat} {pv v : Value} {p : PassD → Bool} {H : GH} {xs : List PassD} (hp : PredPa k pv p H fun x => x ∈ xs ∧ 0 ≤ x.id.1 ∧ x.id.1 ≤ 255) (hl : xs.length ≤ 1000000000) (hk : xs.length < k) (hs : SlR tyPa H v xs) :
    Ev (C (k + 2) (.func (.func 141) #[] #[]) [v, pv] H) fun x => Ext H x.2 ∧ x.1 = .bool (xs.any p) := by
  rw [C_func T141, f141_eq]
  unfold f141_sh
  have h1 : Ev (C (k + 1) (.func (.func 173) #[] #[]) [v, pv] H) fun x => Ext H x.2 ∧ ∃ n : Int, x.1 = .int .i64 n ∧ (decide (0 ≤ n) = xs.any p) := by
    rw [C_func T173, f173_eq]
    unfold f173_sh
    simp only [hs.oLen u60, onV_s]
    exact idxp_loop hp hl hs k 0 H (by omega) (by omega) (.refl _)
  refine Ev.call0 h1 fun w H' ⟨hE, n, hw, hn⟩ => ?_
  have hw : w = .int .i64 n := hw
  subst hw
  simp only [bin_geq, onV_s, hn]
  exact Ev.mk ⟨hE, rfl⟩
end Go.Proofs.Ythicilkmjamefaa
/- The program's Reduce, and copies of loops. -/
namespace Go.Proofs.Ythicilkmjamefaa
open Go.Gh
set_option linter.unusedVariables false
set_option linter.unusedSimpArgs false

theorem flat_pa : tyPa.Flat := fun _ _ _ _ h => h
theorem build60 {H : GH} : gBuildSlice Try.prog 60 0 [] H = some (.slice (some ⟨H.n, 0, none⟩) 0 0, H.push (.row [] 157 false)) := by kernel_rfl
theorem build26 {H : GH} : gBuildSlice Try.prog 26 0 [] H = some (.slice (some ⟨H.n, 0, none⟩) 0 0, H.push (.row [] 29 false)) := by kernel_rfl
theorem build60_1 {H : GH} {p : PassD} : gBuildSlice Try.prog 60 1 [(0, paV p)] H = some (.slice (some ⟨H.n, 0, none⟩) 1 1, H.push (.row (paC p) 157 false)) := by kernel_rfl
theorem clonePa_ok {k : Nat} {v : Value} {xs : List PassD} {H : GH} (hs : SlR tyPa H v xs) (hn : xs.length ≤ 1000000) : Ev (C (k + 1) (.func (.func 146) #[] #[]) [v] H) fun r => Ext H r.2 ∧ Cl tyPa 157 H r.2 r.1 xs := by
  rw [C_func T146, f146_eq]
  unfold f146_sh
  rcases hs with ⟨rfl, rfl⟩ | ⟨b, o, c, row, e, ro, cs, rfl, h2⟩
  · simp only [nilEq u60, onV_s, asB_b, onBool_i, Option.isNone_none, if_true]
    exact Ev.mk ⟨.refl _, .inl ⟨rfl, rfl⟩⟩
  · have hs : SlR tyPa H (.slice (some ⟨b, o, none⟩) xs.length c) xs := .inr ⟨b, o, c, row, e, ro, cs, rfl, h2⟩
    simp only [nilEq u60, onV_s, asB_b, onBool_i, Option.isNone_some, Bool.false_eq_true, if_false, build60, onVH_s]
    obtain ⟨v', H', g1, g2, g3⟩ := app_clone (P := Try.prog) hs u60 u60 el157 (by omega)
    simp only [g1, onVH_s]
    exact Ev.mk ⟨g2, g3⟩
theorem cloneId_ok {k : Nat} {v : Value} {xs : List Idn} {H : GH} (hs : SlR tyId H v xs) (hn : xs.length ≤ 1000000) : Ev (C (k + 1) (.func (.func 115) #[] #[]) [v] H) fun r => Ext H r.2 ∧ Cl tyId 29 H r.2 r.1 xs := by
  rw [C_func T115, f115_eq]
  unfold f115_sh
  rcases hs with ⟨rfl, rfl⟩ | ⟨b, o, c, row, e, ro, cs, rfl, h2⟩
  · simp only [nilEq u26, onV_s, asB_b, onBool_i, Option.isNone_none, if_true]
    exact Ev.mk ⟨.refl _, .inl ⟨rfl, rfl⟩⟩
  · have hs : SlR tyId H (.slice (some ⟨b, o, none⟩) xs.length c) xs := .inr ⟨b, o, c, row, e, ro, cs, rfl, h2⟩
    simp only [nilEq u26, onV_s, asB_b, onBool_i, Option.isNone_some, Bool.false_eq_true, if_false, build26, onVH_s]
    obtain ⟨v', H', g1, g2, g3⟩ := app_clone (P := Try.prog) hs u26 u26 el29 (by omega)
    simp only [g1, onVH_s]
    exact Ev.mk ⟨g2, g3⟩
theorem clipPa_ok {k : Nat} {v : Value} {xs : List PassD} {H H0 : GH} (hs : Cl tyPa 157 H0 H v xs) (hn : xs.length ≤ 1000000) : Ev (C (k + 1) (.func (.func 145) #[] #[]) [v] H) fun r => r.2 = H ∧ Cl tyPa 157 H0 H r.1 xs := by
  rw [C_func T145, f145_eq]
  unfold f145_sh
  obtain ⟨v', h1, h2⟩ := hs.clip (P := Try.prog) u60 (elemOk_size el157) (by omega) (k := .i64) (k' := .i64)
  simp only [hs.oLen u60, onV_s, h1]
  exact Ev.mk ⟨rfl, h2⟩
theorem clipId_ok {k : Nat} {v : Value} {xs : List Idn} {H H0 : GH} (hs : Cl tyId 29 H0 H v xs) (hn : xs.length ≤ 1000000) : Ev (C (k + 1) (.func (.func 76) #[] #[]) [v] H) fun r => r.2 = H ∧ Cl tyId 29 H0 H r.1 xs := by
  rw [C_func T76, f76_eq]
  unfold f76_sh
  obtain ⟨v', h1, h2⟩ := hs.clip (P := Try.prog) u26 (elemOk_size el29) (by omega) (k := .i64) (k' := .i64)
  simp only [hs.oLen u26, onV_s, h1]
  exact Ev.mk ⟨rfl, h2⟩

/-! ### What cancels -/
def pop (q p : PassD) : Prop := q.id = (back p).id ∧ q.front = (back p).front ∧ q.dir = (back p).dir ∧ p.dir ≤ 1
def noC : Option PassD → List PassD → Prop
  | _, [] => True
  | prev, p :: r => (∀ q, prev = some q → ¬ pop q p) ∧ noC (some p) r
instance (q p : PassD) : Decidable (pop q p) := by unfold pop; infer_instance
/-- Passes without those that cancel. -/
def red : List PassD → List PassD → List PassD
  | out, [] => out
  | out, p :: r => match out.getLast? with
    | some q => if pop q p then red out.dropLast r else red (out ++ [p]) r
    | none => red (out ++ [p]) r
theorem red_le : ∀ (ps out : List PassD), (red out ps).length ≤ out.length + ps.length := by
  intro ps
  induction ps with
  | nil => intro out; exact Nat.le_refl _
  | cons p r ih =>
    intro out
    unfold red
    split
    · split
      · have := ih out.dropLast; simp only [List.length_dropLast, List.length_cons] at *; omega
      · have := ih (out ++ [p]); simp only [List.length_append, List.length_cons, List.length_nil] at *; omega
    · have := ih (out ++ [p]); simp only [List.length_append, List.length_cons, List.length_nil] at *; omega
theorem red_iff : ∀ (ps out : List PassD), (red out ps).length = out.length + ps.length ↔ noC out.getLast? ps := by
  intro ps
  induction ps with
  | nil => intro out; simp [red, noC]
  | cons p r ih =>
    intro out
    unfold red noC
    cases ho : out.getLast? with
    | none =>
      simp only [reduceCtorEq, false_implies, implies_true, true_and]
      have := ih (out ++ [p])
      rw [List.getLast?_concat] at this
      rw [← this]
      simp only [List.length_append, List.length_cons, List.length_nil]
      omega
    | some q =>
      simp only [Option.some.injEq, forall_eq']
      by_cases hp : pop q p
      · rw [if_pos hp]
        have hne : out ≠ [] := by intro e; subst e; cases ho
        have h1 : 0 < out.length := List.length_pos_iff.2 hne
        have h2 := red_le r out.dropLast
        simp only [List.length_dropLast, List.length_cons] at *
        constructor
        · intro h; omega
        · intro h; exact absurd hp h.1
      · rw [if_neg hp]
        have := ih (out ++ [p])
        rw [List.getLast?_concat] at this
        simp only [hp, not_false_eq_true, true_and]
        rw [← this]
        simp only [List.length_append, List.length_cons, List.length_nil]
        omega
theorem noC_iff : ∀ (ps : List PassD) (prev : Option PassD), noC prev ps ↔ ∀ i p q, ps[i]? = some p → (if i = 0 then prev else ps[i - 1]?) = some q → ¬ pop q p := by
  intro ps
  induction ps with
  | nil => intro prev; simp [noC]
  | cons p r ih =>
    intro prev
    unfold noC
    rw [ih (some p)]
    constructor
    · rintro ⟨h1, h2⟩ i p' q hp hq
      cases i with
      | zero =>
        simp only [List.getElem?_cons_zero, Option.some.injEq] at hp
        subst hp
        exact h1 q (by simpa using hq)
      | succ i =>
        simp only [List.getElem?_cons_succ] at hp
        refine h2 i p' q hp ?_
        rw [if_neg (by omega)] at hq
        cases i with
        | zero => simpa using hq
        | succ i => rw [if_neg (by omega)]; simpa using hq
    · intro h
      refine ⟨fun q hq => h 0 p q rfl (by simpa using hq), fun i p' q hp hq => h (i + 1) p' q (by simpa using hp) ?_⟩
      rw [if_neg (by omega)]
      cases i with
      | zero => simpa using hq
      | succ i => rw [if_neg (by omega)] at hq; simpa using hq
theorem pop_cancels {q p : PassD} (hq : 0 ≤ q.dir ∧ q.dir ≤ 1) (hp : 0 ≤ p.dir ∧ p.dir ≤ 1) : pop q p ↔ cancels q p := by
  unfold pop cancels back
  simp only
  constructor
  · rintro ⟨a, b, c, d⟩
    refine ⟨a, b, ?_⟩
    rw [c]
    split <;> omega
  · rintro ⟨a, b, c⟩
    refine ⟨a, b, ?_, hp.2⟩
    split <;> omega
/-- Nothing cancels: all are kept. -/
theorem red_full {ps : List PassD} (h : ∀ p ∈ ps, 0 ≤ p.dir ∧ p.dir ≤ 1) : (red [] ps).length = ps.length ↔ ¬ ∃ i p q, ps[i]? = some p ∧ prevOf ps i = some q ∧ cancels q p := by
  have := red_iff ps []
  simp only [List.length_nil, Nat.zero_add, List.getLast?_nil] at this
  rw [this, noC_iff]
  have hm : ∀ i p, ps[i]? = some p → p ∈ ps := fun i p hp => List.mem_of_getElem? hp
  constructor
  · rintro h1 ⟨i, p, q, hp, hq, hc⟩
    refine h1 i p q hp hq ((pop_cancels ?_ (h p (hm i p hp))).2 hc)
    unfold prevOf at hq
    by_cases h0 : i = 0
    · rw [if_pos h0] at hq; cases hq
    · rw [if_neg h0] at hq; exact h q (hm _ q hq)
  · intro h1 i p q hp hq hc
    refine h1 ⟨i, p, q, hp, hq, (pop_cancels ?_ (h p (hm i p hp))).1 hc⟩
    by_cases h0 : i = 0
    · rw [if_pos h0] at hq; cases hq
    · rw [if_neg h0] at hq; exact h q (hm _ q hq)

section
variable {k k' : Nat} {v0 : Value} {ps : List PassD} {H0 H : GH}
theorem rd_add {N b : Nat} {v : Value} {os : List PassD} {p : PassD} {H : GH} (hp : (0 ≤ p.id.1 ∧ p.id.1 ≤ 255) ∧ 0 ≤ p.dir) (hf : Fix tyPa 157 N b H v os) (hN : N ≤ 1000000) (hn : os.length < N) (hb0 : H0.n ≤ b) (hE : Ext H0 H) :
    ∃ H', gAppend Try.prog 60 60 v (.slice (some ⟨H.n, 0, none⟩) 1 1) (H.push (.row (paC p) 157 false)) = some (.slice (some ⟨b, 0, none⟩) (os.length + 1) N, H') ∧ Ext H0 H' ∧ Fix tyPa 157 N b H' (.slice (some ⟨b, 0, none⟩) (os.length + 1) N) (os ++ [p]) ∧ H.n ≤ H'.n ∧ ∀ b', b' < H.n → b' ≠ b → H'.get b' = H.get b' := by
  have hE1 := Ext.push H (.row (paC p) 157 false)
  have hf1 := hf.ext hE1
  have hfst : gFirst tyPa.sz 1 (.slice (some ⟨H.n, 0, none⟩) 1 1) (H.push (.row (paC p) 157 false)) = some (paC p) := by
    unfold gFirst
    simp only [GH.get_push_new]
    rfl
  obtain ⟨row', g1, g2⟩ := hf1.append (P := Try.prog) (ys := [p]) (y := .slice (some ⟨H.n, 0, none⟩) 1 1) u60 u60 el157 (by omega) ⟨_, _, rfl⟩ hfst (.one1 ⟨rfl, hp⟩) (by simp) (by simp only [List.length_singleton]; omega) (fun _ _ _ h => h)
  exact ⟨_, g1, (hE.push' _).set hb0 hf1.lt _, g2, Nat.le_succ _, fun b' hb' hne => (GH.get_set_other (Ne.symm hne) hf1.lt).trans (GH.get_push_old hb')⟩
theorem rd_l3 (hk' : ps.length < k') (hs : SlR tyPa H0 v0 ps) (hn : ps.length ≤ 1000) {b : Nat} (hb0 : H0.n ≤ b) : ∀ (r i : Nat) (v : Value) (os : List PassD) (H : GH), i ≤ ps.length → ps.length - i < r → os.length ≤ i → Ext H0 H → Fix tyPa 157 ps.length b H v os →
    Ev (f143_l3 (C (k + 1)) k' r v v0 (.int .i64 ps.length) (.int .i64 i) H) fun z => Ext H0 z.2 ∧ ∃ a c, z.1 = .slice a (red os (ps.drop i)).length c := by
  intro r
  induction r with
  | zero => intro i v os H _ h; omega
  | succ r ih =>
    intro i v os H hi hr ho hE hf
    show Ev (f143_l3b (C (k + 1)) k' (f143_l3 (C (k + 1)) k' r) v v0 (.int .i64 ps.length) (.int .i64 i) H) _
    unfold f143_l3b
    simp only [bin_lss, onV_s, asB_b, onBool_d]
    by_cases hlt : i < ps.length
    · rw [if_pos (by omega)]
      have hdrop : ps.drop i = ps[i] :: ps.drop (i + 1) := List.drop_eq_getElem_cons hlt
      obtain ⟨q, e1, e2, e3⟩ := pa_at (hs.mono hE) (k := .i64) hlt
      have hdir := pa_dir hs _ (List.getElem_mem hlt)
      obtain ⟨H1, f1, f2, f3, f4⟩ := box (P := Try.prog) (t := 157) (H := H) (v := .agg (paC ps[i]).toArray) (cs := paC ps[i]) (row := [(.int .u8 0), (.int .i64 0), (.bool false), (.int .u8 0)]) (e := 157) (gSize_ld ld157) rfl rfl rfl
      simp only [e1, onV_s, pa_ld e2, f1, onH_s]
      have hf1 := hf.ext f2
      have hE1 := hE.trans f2
      have hp5 := PtC.of f3
      have hb5 : ∃ b5, (.pointer (some ⟨H.n, 0, none⟩) : Value) = .pointer (some ⟨b5, 0, none⟩) ∧ b5 ≠ b ∧ H0.n ≤ b5 := ⟨H.n, rfl, by have := hf.lt; omega, hE.n⟩
      revert hf1 hE1 hp5 hb5
      clear f1 f2 f3 f4
      generalize (.pointer (some ⟨H.n, 0, none⟩) : Value) = p5
      intro hf1 hE1 hp5 hb5
      obtain ⟨b5, rfl, hb5, hb50⟩ := hb5
      simp only [hf1.slr.oLen u60, onV_s, bin_sub]
      rw [Go.IntWalk.i64_in _ (by omega)]
      -- one more is kept
      have hadd : ∀ H2, Ext H0 H2 → Fix tyPa 157 ps.length b H2 v os → PtC H2 (.pointer (some ⟨b5, 0, none⟩)) (paC ps[i]) → (red os (ps.drop i)).length = (red (os ++ [ps[i]]) (ps.drop (i + 1))).length →
          Ev (f143_r8 (C (k + 1)) k' (f143_l3 (C (k + 1)) k' r) v (.pointer (some ⟨b5, 0, none⟩)) v0 (.int .i64 ps.length) (.int .i64 i) H2) fun z => Ext H0 z.2 ∧ ∃ a c, z.1 = .slice a (red os (ps.drop i)).length c := by
        intro H2 hE2 hf2 hp2 hred
        unfold f143_r8
        obtain ⟨H3, g1, g2, g3, _⟩ := rd_add (p := ps[i]) ⟨e3, hdir⟩ hf2 (by omega) (by omega) hb0 hE2
        have hpv : (.agg (paC ps[i]).toArray : Value) = paV ps[i] := rfl
        simp only [pa_ld hp2, onV_s, hpv, build60_1, onVH_s, g1, bin_add]
        rw [wrS (by omega), hred]
        refine ih (i + 1) _ _ H3 (by omega) (by omega) (by rw [List.length_append, List.length_singleton]; omega) g2 g3
      unfold f143_r6
      simp only [bin_geq, onV_s]
      unfold f143_g6_3
      simp only [asB_b, onBool_d]
      cases hlast : os.getLast? with
      | none =>
        have hos : os = [] := by simpa using hlast
        subst hos
        rw [if_neg (by simp)]
        refine hadd H1 hE1 hf1 hp5 ?_
        rw [hdrop]
        rfl
      | some q =>
        have hne : os ≠ [] := by intro e; subst e; cases hlast
        have hpos : 0 < os.length := List.length_pos_iff.2 hne
        have hq : os[os.length - 1] = q := by
          rw [List.getLast?_eq_getElem?, List.getElem?_eq_getElem (by omega)] at hlast
          exact Option.some.inj hlast
        rw [if_pos (by omega)]
        obtain ⟨w, a1, a2, _⟩ := pa_at hf1.slr (k := .i64) (i := os.length - 1) (by omega)
        rw [hq] at a2
        have hpv : ∀ x : PassD, (.agg (paC x).toArray : Value) = paV x := fun _ => rfl
        rw [show ((os.length : Int) - 1) = ((os.length - 1 : Nat) : Int) by omega]
        simp only [a1, pa_ld a2, onV_s, pa_ld hp5, hpv]
        refine Ev.call 2 (R := fun u _ => u = paV (back ps[i])) (Sp.of (fun lo => back_ok) (fun _ _ _ h => h)) fun u H2 hE' hu => ?_
        subst hu
        have hE2 := hE1.trans hE'
        have hf2 := hf1.ext hE'
        have hp2 := hp5.mono hE'
        simp only [eqPa, onV_s]
        unfold f143_g6_12
        simp only [asB_b, onBool_i]
        have hr8 : ∀ h : (red os (ps.drop i)).length = (red (os ++ [ps[i]]) (ps.drop (i + 1))).length, Ev (f143_r8 (C (k + 1)) k' (f143_l3 (C (k + 1)) k' r) v (.pointer (some ⟨b5, 0, none⟩)) v0 (.int .i64 ps.length) (.int .i64 i) H2) fun z => Ext H0 z.2 ∧ ∃ a c, z.1 = .slice a (red os (ps.drop i)).length c := fun h => hadd H2 hE2 hf2 hp2 h
        unfold f143_r8 at hr8
        by_cases hc : (decide (q.id = (back ps[i]).id) && (q.front == (back ps[i]).front && (q.dir == (back ps[i]).dir))) = true
        · rw [if_pos hc]
          simp only [Bool.and_eq_true, decide_eq_true_eq, beq_iff_eq] at hc
          obtain ⟨w0, w1, w2, c0, d0, c1, d1, c2, d2⟩ := pa_f hp2
          simp only [c2, onV_s, d2, bin_leq, asB_b, onBool_d]
          by_cases hd : ps[i].dir ≤ 1
          · rw [if_pos hd]
            have hpop : pop q ps[i] := ⟨hc.1, hc.2.1, hc.2.2, hd⟩
            obtain ⟨g1, g2⟩ := hf2.shrink (P := Try.prog) u60 (elemOk_size el157) (by omega) (n := os.length - 1) (by omega) (by omega) (k := .i64) (k' := .i64)
            simp only [hf2.cap u60 (by omega), onV_s, g1, bin_add]
            rw [wrS (by omega)]
            have hred : red os (ps.drop i) = red (os.take (os.length - 1)) (ps.drop (i + 1)) := by
              rw [hdrop]
              conv => lhs; unfold red
              simp only [hlast, if_pos hpop, List.dropLast_eq_take]
            rw [hred]
            refine ih (i + 1) _ _ H2 (by omega) (by omega) (by rw [List.length_take]; omega) hE2 g2
          · rw [if_neg hd]
            refine hr8 ?_
            rw [hdrop]
            conv => lhs; unfold red
            simp only [hlast]
            rw [if_neg fun h => hd h.2.2.2]
        · rw [if_neg hc]
          refine hr8 ?_
          rw [hdrop]
          conv => lhs; unfold red
          simp only [hlast]
          rw [if_neg fun h => hc (by simp [h.1, h.2.1, h.2.2.1])]
    · rw [if_neg (by omega)]
      unfold f143_r10
      have hl : os.length ≤ 1000000 := by have := hf.le; omega
      refine Ev.call0 (clonePa_ok (k := k) hf.slr hl) fun u H2 ⟨hE', hc⟩ => ?_
      simp only at hE' hc
      refine Ev.call0 (clipPa_ok (k := k) hc hl) fun w H3 ⟨h3, hc3⟩ => ?_
      simp only at h3 hc3
      subst h3
      refine Ev.mk ⟨hE.trans hE', ?_⟩
      rw [List.drop_eq_nil_of_le (by omega)]
      exact hc3.slr.val
theorem reduce_ok (hk : 2000 ≤ k) (hs : SlR tyPa H v0 ps) (hn : ps.length ≤ 1000) : Ev (C (k + 2) (.func (.func 143) #[] #[]) [v0] H) fun z => Ext H z.2 ∧ ∃ a c, z.1 = .slice a (red [] ps).length c := by
  rw [C_func T143, f143_eq]
  unfold f143_sh
  obtain ⟨row, h1, h2⟩ := Fix.make (A := tyPa) (P := Try.prog) (H := H) (N := ps.length) u60 el157 (by omega) (k := .i64) (k' := .i64)
  simp only [hs.oLen u60, onV_s, h1, onVH_s]
  exact rd_l3 (by omega) hs hn (Nat.le_refl _) (k + 1) 0 _ [] _ (by omega) (by omega) (by simp) (.push _ _) h2
end
end Go.Proofs.Ythicilkmjamefaa
