/- The ghost machine: regions whose order is drawn: the statics; the trace. -/
import Derived.Test.YthicilkmjamefaaGhClass
namespace Go.Gh
open Go.RowKit
set_option linter.unusedVariables false
set_option linter.unusedSimpArgs false

/-! ### What comes before what -/
theorem edge_fold (acc : Array Nat) (k : Nat) : ∀ (l : List Edge) (s : Nat), (l.foldl (fun s e => if Region.binds .any e then s ||| 2 ^ e.on ||| acc.getD e.on 0 else s) s).testBit k = true →
    s.testBit k = true ∨ ∃ e ∈ l, Region.binds .any e = true ∧ (k = e.on ∨ (acc.getD e.on 0).testBit k = true) := by
  intro l
  induction l with
  | nil => intro s h; exact .inl h
  | cons e l ih =>
    intro s h
    simp only [List.foldl_cons] at h
    rcases ih _ h with h1 | ⟨e', he', h1⟩
    · split at h1
      · next hb =>
        rw [Nat.testBit_or, Nat.testBit_or, Nat.testBit_two_pow] at h1
        simp only [Bool.or_eq_true, decide_eq_true_eq] at h1
        rcases h1 with (h1 | h1) | h1
        · exact .inl h1
        · exact .inr ⟨e, by simp, hb, .inl h1.symm⟩
        · exact .inr ⟨e, by simp, hb, .inr h1⟩
      · exact .inl h1
    · exact .inr ⟨e', by simp [he'], h1⟩

def befStep (acc : Array Nat) (o : Oper) : Array Nat := acc.push (o.after.foldl (fun s e => if Region.binds .any e then s ||| 2 ^ e.on ||| acc.getD e.on 0 else s) 0)
theorem bef_prefix : ∀ (l : List Oper) (acc : Array Nat) (i : Nat), i < acc.size → (l.foldl befStep acc).getD i 0 = acc.getD i 0 := by
  intro l
  induction l with
  | nil => intro acc i _; rfl
  | cons o l ih =>
    intro acc i hi
    rw [List.foldl_cons, ih _ i (by simp [befStep]; omega)]
    simp only [befStep, Array.getD_eq_getD_getElem?]
    rw [Array.getElem?_push_lt hi, Array.getElem?_eq_getElem hi]
theorem bef_fold (k : Nat) : ∀ (l : List Oper) (acc : Array Nat) (p : Nat) (o : Oper), l[p]? = some o → ((l.foldl befStep acc).getD (acc.size + p) 0).testBit k = true →
    ∃ e ∈ o.after.toList, Region.binds .any e = true ∧ (k = e.on ∨ ((l.foldl befStep acc).getD e.on 0).testBit k = true) := by
  intro l
  induction l with
  | nil => intro acc p o h; simp at h
  | cons o' l ih =>
    intro acc p o ho h
    cases p with
    | zero =>
      simp at ho
      subst ho
      rw [List.foldl_cons] at h ⊢
      rw [bef_prefix _ _ _ (by simp [befStep])] at h
      have e : (befStep acc o').getD (acc.size + 0) 0 = o'.after.foldl (fun s e => if Region.binds .any e then s ||| 2 ^ e.on ||| acc.getD e.on 0 else s) 0 := by
        simp [befStep, Array.getD_eq_getD_getElem?]
      rw [e, ← Array.foldl_toList] at h
      rcases edge_fold acc k _ _ h with h1 | ⟨e, he, hb, h1⟩
      · simp at h1
      · refine ⟨e, he, hb, ?_⟩
        rcases h1 with h1 | h1
        · exact .inl h1
        · right
          have hlt : e.on < acc.size := by
            rcases Nat.lt_or_ge e.on acc.size with hh | hh
            · exact hh
            · rw [Array.getD_eq_getD_getElem?, Array.getElem?_eq_none hh] at h1; simp at h1
          rw [bef_prefix _ _ _ (by simp [befStep]; omega)]
          simp only [befStep, Array.getD_eq_getD_getElem?] at h1 ⊢
          rw [Array.getElem?_push_lt hlt]
          rw [Array.getElem?_eq_getElem hlt] at h1
          exact h1
    | succ p =>
      rw [List.foldl_cons] at h ⊢
      refine ih (befStep acc o') p o (by simpa using ho) ?_
      have : (befStep acc o').size + p = acc.size + (p + 1) := by simp [befStep]; omega
      rw [this]; exact h
theorem before_eq (ops : Array Oper) : Region.before ops = ops.toList.foldl befStep #[] := by
  rw [Array.foldl_toList]
  rfl
theorem before_spec {ops : Array Oper} {j k : Nat} {o : Oper} (ho : ops[j]? = some o) (h : ((Region.before ops).getD j 0).testBit k = true) :
    ∃ e ∈ o.after, Region.binds .any e = true ∧ (k = e.on ∨ ((Region.before ops).getD e.on 0).testBit k = true) := by
  rw [before_eq] at h ⊢
  obtain ⟨e, he, h⟩ := bef_fold k ops.toList #[] j o (by rw [Array.getElem?_toList]; exact ho) (by simpa using h)
  exact ⟨e, Array.mem_toList_iff.1 he, h⟩

section
variable {P : Program}
theorem cls_getD {c : Nat} {ops : Array Oper} {i : Nat} {o : Oper} (h : ops[i]? = some o) : (ops.toList.map (opCls P c)).getD i 0 = opCls P c o := by
  rw [List.getD_eq_getElem?_getD, List.getElem?_map, Array.getElem?_toList, h]; rfl
theorem memOk_spec {c : Nat} {ops : Array Oper} (h : memOk P c ops = true) {i j : Nat} {oi oj : Oper} (hi : ops[i]? = some oi) (hj : ops[j]? = some oj) (hij : i < j) :
    opCls P c oj = 0 ∨ opCls P c oi = 0 ∨ (opCls P c oi ≠ 2 ∧ opCls P c oj ≠ 2) ∨ ((Region.before ops).getD j 0).testBit i = true := by
  unfold memOk at h
  simp only [List.all_eq_true, List.mem_range, List.length_map, Array.length_toList] at h
  have hj' : j < ops.size := (Array.getElem?_eq_some_iff.1 hj).1
  have := h j hj'
  rw [cls_getD hj] at this
  rw [Bool.or_eq_true] at this
  rcases this with h0 | h1
  · exact .inl (by simpa using h0)
  · rw [List.all_eq_true] at h1
    have := h1 i (List.mem_range.2 hij)
    rw [cls_getD hi] at this
    simp only [Bool.or_eq_true, beq_iff_eq, Bool.and_eq_true, bne_iff_ne] at this
    rcases this with (h2 | h2) | h2
    · exact .inr (.inl h2)
    · exact .inr (.inr (.inl h2))
    · exact .inr (.inr (.inr h2))
theorem tmpsOk_spec {ops : Array Oper} (h : tmpsOk ops = true) {i j : Nat} {oi oj : Oper} (hi : ops[i]? = some oi) (hj : ops[j]? = some oj) (hij : i < j) :
    ((Region.before ops).getD j 0).testBit i = true ∨ ((∀ d, oi.dst = some d → d ∉ opTmps ops oj) ∧ ∀ d, oj.dst = some d → d ∉ opTmps ops oi) := by
  unfold tmpsOk at h
  simp only [List.all_eq_true, List.mem_range] at h
  have hj' : j < ops.size := (Array.getElem?_eq_some_iff.1 hj).1
  have := h j hj' i hij
  rw [hi, hj, Bool.or_eq_true] at this
  rcases this with h1 | h1
  · exact .inl h1
  · simp only [Bool.and_eq_true] at h1
    refine .inr ⟨fun d hd => ?_, fun d hd => ?_⟩
    · have := h1.1; rw [hd] at this; simpa using this
    · have := h1.2; rw [hd] at this; simpa using this
theorem edgesOk_spec {ops : Array Oper} (h : edgesOk ops = true) {i : Nat} {o : Oper} (hi : ops[i]? = some o) : ∀ e ∈ o.after, Region.binds .any e = true → e.on < i := by
  unfold edgesOk at h
  simp only [List.all_eq_true, List.mem_range] at h
  have := h i (Array.getElem?_eq_some_iff.1 hi).1
  rw [hi] at this
  simp only [Bool.and_eq_true, List.all_eq_true] at this
  intro e he hb
  have := this.1 e (Array.mem_toList_iff.2 he)
  simpa [hb] using this

/-! ### The trace of a region that is run in its own order -/
structure Trace (P : Program) (d : Nat) (call : Handle) (gops : List Oper) (ops : List Oper) (as : Nat → GA) (hs : Nat → GH) (vs : Nat → Value) : Prop where
  step : ∀ (k : Nat) (o : Oper), ops[k]? = some o → as (k + 1) = (as k).put o.dst (vs k) ∧
    ((gWanted gops (as k) o = some true ∧ gStep P d call (as k).eval o (hs k) gRet = some [(vs k, hs (k + 1))]) ∨ (gWanted gops (as k) o = some false ∧ vs k = undef ∧ hs (k + 1) = hs k))

theorem trace_of {d : Nat} (hd : d ≠ 0) {call : Handle} {gops : List Oper} {β : Type} : ∀ (ops : List Oper) {K : GA → GH → M β} {outs : List β} {a : GA} {H : GH}, gOps P d call gops ops a H K = some outs →
    ∃ as hs vs, as 0 = a ∧ hs 0 = H ∧ Trace P d call gops ops as hs vs ∧ ∃ o, K (as ops.length) (hs ops.length) = some o ∧ o ⊆ outs := by
  intro ops
  induction ops with
  | nil => intro K outs a H h; exact ⟨fun _ => a, fun _ => H, fun _ => undef, rfl, rfl, ⟨fun k o h => by simp at h⟩, outs, h, fun _ hx => hx⟩
  | cons o ops ih =>
    intro K outs a H h
    unfold gOps at h
    cases hw : gWanted gops a o with
    | none => rw [hw] at h; cases h
    | some b =>
      rw [hw] at h
      have key : ∀ v H1, (∃ o', gOps P d call gops ops (a.put o.dst v) H1 K = some o' ∧ o' ⊆ outs) →
          ((gWanted gops a o = some true ∧ gStep P d call a.eval o H gRet = some [(v, H1)]) ∨ (gWanted gops a o = some false ∧ v = undef ∧ H1 = H)) →
          ∃ as hs vs, as 0 = a ∧ hs 0 = H ∧ Trace P d call gops (o :: ops) as hs vs ∧ ∃ o', K (as (o :: ops).length) (hs (o :: ops).length) = some o' ∧ o' ⊆ outs := by
        intro v H1 ⟨o', ho', hs'⟩ hst
        obtain ⟨as, hs, vs, h1, h2, ht, o2, h3, h4⟩ := ih ho'
        refine ⟨fun k => match k with | 0 => a | k + 1 => as k, fun k => match k with | 0 => H | k + 1 => hs k, fun k => match k with | 0 => v | k + 1 => vs k, rfl, rfl, ⟨fun k o'' hk => ?_⟩, o2, h3, fun x hx => hs' (h4 hx)⟩
        cases k with
        | zero =>
          simp only [List.getElem?_cons_zero, Option.some.injEq] at hk
          subst hk
          exact ⟨h1, by simp only [h2]; exact hst⟩
        | succ k =>
          simp only [List.getElem?_cons_succ] at hk
          exact ht.step k o'' hk
      cases b with
      | true =>
        simp only [onBool] at h
        obtain ⟨l, hl, h1, hout⟩ := Nat1.gStep P d call a.eval o H _ _ _ h
        obtain ⟨x, rfl⟩ := h1 hd
        exact key x.1 x.2 (hout x (List.mem_singleton.2 rfl)) (.inl ⟨hw, hl⟩)
      | false =>
        simp only [onBool] at h
        exact key undef H ⟨outs, h, fun _ hx => hx⟩ (.inr ⟨hw, rfl, rfl⟩)
end
end Go.Gh
