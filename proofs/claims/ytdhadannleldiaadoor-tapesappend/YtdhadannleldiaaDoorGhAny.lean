/- The ghost machine: regions whose order is drawn: the statics; the trace. -/
import Derived.Test.YtdhadannleldiaaDoorGhClass
namespace Go.Gh
open Go.RowKit
set_option linter.unusedVariables false
set_option linter.unusedSimpArgs false

/-! ### What comes before what -/
theorem edge_fold (acc : Array Nat) (k : Nat) : ∀ (l : List Edge) (s : Nat), (l.foldl (fun s e => if Region.binds .any e then s ||| 2 ^ e.on ||| acc.getD e.on 0 else s) s).testBit k = true →
    s.testBit k = true ∨ ∃ e ∈ l, Region.binds .any e = true ∧ (k = e.on ∨ (acc.getD e.on 0).testBit k = true) := by
  intro l
  induction l with
  | nil => intro s h; exact .inl h
  | cons e l ih =>
    intro s h
    simp only [List.foldl_cons] at h
    rcases ih _ h with h1 | ⟨e', he', h1⟩
    · split at h1
      · next hb =>
        rw [Nat.testBit_or, Nat.testBit_or, Nat.testBit_two_pow] at h1
        simp only [Bool.or_eq_true, decide_eq_true_eq] at h1
        rcases h1 with (h1 | h1) | h1
        · exact .inl h1
        · exact .inr ⟨e, by simp, hb, .inl h1.symm⟩
        · exact .inr ⟨e, by simp, hb, .inr h1⟩
      · exact .inl h1
    · exact .inr ⟨e', by simp [he'], h1⟩

def befStep (acc : Array Nat) (o : Oper) : Array Nat := acc.push (o.after.foldl (fun s e => if Region.binds .any e then s ||| 2 ^ e.on ||| acc.getD e.on 0 else s) 0)
theorem bef_prefix : ∀ (l : List Oper) (acc : Array Nat) (i : Nat), i < acc.size → (l.foldl befStep acc).getD i 0 = acc.getD i 0 := by
  intro l
  induction l with
  | nil => intro acc i _; rfl
  | cons o l ih =>
    intro acc i hi
    rw [List.foldl_cons, ih _ i (by simp [befStep]; omega)]
    simp only [befStep, Array.getD_eq_getD_getElem?]
    rw [Array.getElem?_push_lt hi, Array.getElem?_eq_getElem hi]
theorem bef_fold (k : Nat) : ∀ (l : List Oper) (acc : Array Nat) (p : Nat) (o : Oper), l[p]? = some o → ((l.foldl befStep acc).getD (acc.size + p) 0).testBit k = true →
    ∃ e ∈ o.after.toList, Region.binds .any e = true ∧ (k = e.on ∨ ((l.foldl befStep acc).getD e.on 0).testBit k = true) := by
  intro l
  induction l with
  | nil => intro acc p o h; simp at h
  | cons o' l ih =>
    intro acc p o ho h
    cases p with
    | zero =>
      simp at ho
      subst ho
      rw [List.foldl_cons] at h ⊢
      rw [bef_prefix _ _ _ (by simp [befStep])] at h
      have e : (befStep acc o').getD (acc.size + 0) 0 = o'.after.foldl (fun s e => if Region.binds .any e then s ||| 2 ^ e.on ||| acc.getD e.on 0 else s) 0 := by
        simp [befStep, Array.getD_eq_getD_getElem?]
      rw [e, ← Array.foldl_toList] at h
      rcases edge_fold acc k _ _ h with h1 | ⟨e, he, hb, h1⟩
      · simp at h1
      · refine ⟨e, he, hb, ?_⟩
        rcases h1 with h1 | h1
        · exact .inl h1
        · right
          have hlt : e.on < acc.size := by
            rcases Nat.lt_or_ge e.on acc.size with hh | hh
            · exact hh
            · rw [Array.getD_eq_getD_getElem?, Array.getElem?_eq_none hh] at h1; simp at h1
          rw [bef_prefix _ _ _ (by simp [befStep]; omega)]
          simp only [befStep, Array.getD_eq_getD_getElem?] at h1 ⊢
          rw [Array.getElem?_push_lt hlt]
          rw [Array.getElem?_eq_getElem hlt] at h1
          exact h1
    | succ p =>
      rw [List.foldl_cons] at h ⊢
      refine ih (befStep acc o') p o (by simpa using ho) ?_
      have : (befStep acc o').size + p = acc.size + (p + 1) := by simp [befStep]; omega
      rw [this]; exact h
theorem before_eq (ops : Array Oper) : Region.before ops = ops.toList.foldl befStep #[] := by
  rw [Array.foldl_toList]
  rfl
theorem before_spec {ops : Array Oper} {j k : Nat} {o : Oper} (ho : ops[j]? = some o) (h : ((Region.before ops).getD j 0).testBit k = true) :
    ∃ e ∈ o.after, Region.binds .any e = true ∧ (k = e.on ∨ ((Region.before ops).getD e.on 0).testBit k = true) := by
  rw [before_eq] at h ⊢
  obtain ⟨e, he, h⟩ := bef_fold k ops.toList #[] j o (by rw [Array.getElem?_toList]; exact ho) (by simpa using h)
  exact ⟨e, Array.mem_toList_iff.1 he, h⟩

section
variable {P : Program}
theorem cls_getD {c : Nat} {ops : Array Oper} {i : Nat} {o : Oper} (h : ops[i]? = some o) : (ops.toList.map (opCls P c)).getD i 0 = opCls P c o := by
  rw [List.getD_eq_getElem?_getD, List.getElem?_map, Array.getElem?_toList, h]; rfl
theorem memOk_spec {c : Nat} {ops : Array Oper} (h : memOk P c ops = true) {i j : Nat} {oi oj : Oper} (hi : ops[i]? = some oi) (hj : ops[j]? = some oj) (hij : i < j) :
    opCls P c oj = 0 ∨ opCls P c oi = 0 ∨ (opCls P c oi ≠ 2 ∧ opCls P c oj ≠ 2) ∨ ((Region.before ops).getD j 0).testBit i = true ∨ (3 ≤ c ∧ samePlace oi oj = true) ∨ (3 ≤ c ∧ looksFree ops.toList i = true) := by
  unfold memOk at h
  simp only [List.all_eq_true, List.mem_range, List.length_map, Array.length_toList] at h
  have hj' : j < ops.size := (Array.getElem?_eq_some_iff.1 hj).1
  have := h j hj'
  rw [cls_getD hj] at this
  rw [Bool.or_eq_true] at this
  rcases this with h0 | h1
  · exact .inl (by simpa using h0)
  · rw [List.all_eq_true] at h1
    have := h1 i (List.mem_range.2 hij)
    rw [cls_getD hi] at this
    rw [hi, hj] at this
    simp only [Bool.or_eq_true, beq_iff_eq, Bool.and_eq_true, bne_iff_ne, decide_eq_true_eq] at this
    rcases this with (((h2 | h2) | h2) | h2) | h2
    · exact .inr (.inl h2)
    · exact .inr (.inr (.inl h2))
    · exact .inr (.inr (.inr (.inl h2)))
    · exact .inr (.inr (.inr (.inr (.inl h2))))
    · exact .inr (.inr (.inr (.inr (.inr h2))))
theorem looksFree_spec {ops : Array Oper} {j : Nat} (h : looksFree ops.toList j = true) : ∃ o x, ops[j]? = some o ∧ lookTmp o = some x ∧ ∀ (l : Nat) (ol : Oper), j ≤ l → ops[l]? = some ol → ol.dst ≠ some x := by
  unfold looksFree at h
  split at h
  · next x hx =>
    obtain ⟨o, ho, hl⟩ := Option.bind_eq_some_iff.1 hx
    rw [Array.getElem?_toList] at ho
    refine ⟨o, x, ho, hl, fun l ol hjl hol hd => ?_⟩
    rw [List.all_eq_true] at h
    have := h l (List.mem_range.2 (by rw [Array.length_toList]; exact (Array.getElem?_eq_some_iff.1 hol).1))
    rw [Array.getElem?_toList, hol, decide_eq_false (show ¬ l < j by omega)] at this
    have this : (ol.dst != some x) = true := this
    rw [hd] at this
    simp at this
  · cases h
theorem lookTmp_op {o : Oper} {x : Tmp} (h : lookTmp o = some x) : (∃ t, o.op = .load t (.tmp x)) ∨ ∃ s d, o.op = .convert s d (.tmp x) ∧ (s == d) = false := by
  unfold lookTmp at h
  split at h
  · next t y e => injection h with h; subst h; exact .inl ⟨t, e⟩
  · next s d y e =>
    split at h
    · cases h
    · next hsd => injection h with h; subst h; exact .inr ⟨s, d, e, by simpa using hsd⟩
  · cases h
theorem isSelf_ne {s d : TypeId} (h : (s == d) = false) : isSelf P s d = false := by unfold isSelf; rw [h]; rfl
theorem lookTmp_cls {o : Oper} {x : Tmp} (h : lookTmp o = some x) {c : Nat} : opCls P c o ≠ 2 := by
  rcases lookTmp_op h with ⟨t, e⟩ | ⟨s, d, e, hsd⟩
  · unfold opCls; rw [e]
    show (1 : Nat) ≠ 2
    decide
  · unfold opCls; rw [e]
    show (if isSelf P s d then 2 else if isBytes P s d then 1 else 0) ≠ 2
    rw [isSelf_ne hsd]
    simp only [Bool.false_eq_true, if_false]
    split <;> decide
def SameL (u v : Option Value) : Prop := ∃ a b, u = some a ∧ v = some b ∧ sameV a b = true
theorem onSame_some {β : Type} {u v : Option Value} {m : M β} {o : List β} (h : onSame u v m = some o) : m = some o ∧ SameL u v := by
  unfold onSame at h
  split at h
  · next x y =>
    split at h
    · next hs => exact ⟨h, x, y, rfl, rfl, hs⟩
    · cases h
  · cases h
theorem foldSame_some {β : Type} {a : GA} {H H' : GH} {m : M β} {o : List β} : ∀ l : List Oper, l.foldr (fun x m => onSame (gLook P a x H) (gLook P a x H') m) m = some o → m = some o ∧ ∀ x ∈ l, SameL (gLook P a x H) (gLook P a x H')
  | [], h => ⟨h, fun x hx => by cases hx⟩
  | x :: l, h => by
    obtain ⟨h1, h2⟩ := onSame_some (show onSame (gLook P a x H) (gLook P a x H') _ = some o from h)
    obtain ⟨h3, h4⟩ := foldSame_some l h1
    refine ⟨h3, fun y hy => ?_⟩
    rcases List.mem_cons.1 hy with rfl | hy
    · exact h2
    · exact h4 y hy
theorem onApart_some {β : Type} {d : Nat} {ops : List Oper} {i : Nat} {a : GA} {H H' : GH} {m : M β} {o : List β} (h : onApart P d ops i a H H' m = some o) : m = some o ∧ (3 ≤ d → ∀ x ∈ looseAt P d ops i, SameL (gLook P a x H) (gLook P a x H')) := by
  unfold onApart at h
  split at h
  · obtain ⟨h1, h2⟩ := foldSame_some _ h
    exact ⟨h1, fun _ => h2⟩
  · next hd => exact ⟨h, fun h3 => absurd (by simpa using h3) hd⟩
theorem onClosed_some {β : Type} {b : Bool} {v : Value} {m : M β} {o : List β} (h : onClosed b v m = some o) : m = some o ∧ (b = true → closed v = true) := by
  unfold onClosed at h
  cases b with
  | false => exact ⟨h, fun h => by cases h⟩
  | true =>
    simp only [if_true] at h
    split at h
    · next hc => exact ⟨h, fun _ => hc⟩
    · cases h
theorem same1_eq {u v : Value} (h : same1 u v = true) : u = v ∧ closed0 u = true ∧ closed1 u = true ∧ closed u = true := by
  unfold same1 at h
  split at h
  · simp only [beq_iff_eq] at h; subst h; exact ⟨rfl, rfl, rfl, rfl⟩
  · simp only [Bool.and_eq_true, decide_eq_true_eq] at h; obtain ⟨rfl, rfl⟩ := h; exact ⟨rfl, rfl, rfl, rfl⟩
  · simp only [decide_eq_true_eq] at h; subst h; exact ⟨rfl, rfl, rfl, rfl⟩
  · cases h
theorem sameL_eq : ∀ (as bs : List Value), (as.zip bs).all (fun x => same1 x.1 x.2) = true → as.length = bs.length → as = bs ∧ as.all closed0 = true
  | [], [], _, _ => ⟨rfl, rfl⟩
  | a :: as, b :: bs, h, hl => by
    simp only [List.zip_cons_cons, List.all_cons, Bool.and_eq_true] at h
    obtain ⟨rfl, h2⟩ := sameL_eq as bs h.2 (by simpa using hl)
    obtain ⟨rfl, h3, _⟩ := same1_eq h.1
    exact ⟨rfl, by simp [h3, h2]⟩
  | [], _ :: _, _, hl => by cases hl
  | _ :: _, [], _, hl => by cases hl
theorem sameV_eq {u v : Value} (h : sameV u v = true) : u = v ∧ closed u = true := by
  unfold sameV at h
  split at h
  · next a b =>
    simp only [Bool.and_eq_true, decide_eq_true_eq] at h
    obtain ⟨h1, h2⟩ := sameL_eq _ _ h.1 h.2
    have : a = b := Array.ext' h1
    subst this
    exact ⟨rfl, h2⟩
  · obtain ⟨h1, _, _, h2⟩ := same1_eq h
    exact ⟨h1, h2⟩
theorem samePlace_inv {o o' : Oper} (h : samePlace o o' = true) : ∃ t a b, o.op = .lookup t (.tmp a) (.tmp b) false ∧ o'.op = .mapEntry t (.tmp a) (.tmp b) ∧ o'.guard = none := by
  unfold samePlace at h
  split at h
  · next t a b t' a' b' h1 h2 h3 =>
    simp only [Bool.and_eq_true, beq_iff_eq] at h
    obtain ⟨⟨rfl, rfl⟩, rfl⟩ := h
    exact ⟨_, _, _, h1, h2, h3⟩
  · cases h
theorem tmpsOk_spec {ops : Array Oper} (h : tmpsOk ops = true) {i j : Nat} {oi oj : Oper} (hi : ops[i]? = some oi) (hj : ops[j]? = some oj) (hij : i < j) :
    ((Region.before ops).getD j 0).testBit i = true ∨ ((∀ d, oi.dst = some d → d ∉ opTmps ops oj) ∧ ∀ d, oj.dst = some d → d ∉ opTmps ops oi) := by
  unfold tmpsOk at h
  simp only [List.all_eq_true, List.mem_range] at h
  have hj' : j < ops.size := (Array.getElem?_eq_some_iff.1 hj).1
  have := h j hj' i hij
  rw [hi, hj, Bool.or_eq_true] at this
  rcases this with h1 | h1
  · exact .inl h1
  · simp only [Bool.and_eq_true] at h1
    refine .inr ⟨fun d hd => ?_, fun d hd => ?_⟩
    · have := h1.1; rw [hd] at this; simpa using this
    · have := h1.2; rw [hd] at this; simpa using this
theorem edgesOk_spec {ops : Array Oper} (h : edgesOk ops = true) {i : Nat} {o : Oper} (hi : ops[i]? = some o) : ∀ e ∈ o.after, Region.binds .any e = true → e.on < i := by
  unfold edgesOk at h
  simp only [List.all_eq_true, List.mem_range] at h
  have := h i (Array.getElem?_eq_some_iff.1 hi).1
  rw [hi] at this
  simp only [Bool.and_eq_true, List.all_eq_true] at this
  intro e he hb
  have := this.1 e (Array.mem_toList_iff.2 he)
  simpa [hb] using this

/-! ### The trace of a region that is run in its own order -/
structure Trace (P : Program) (d : Nat) (call : Handle) (gops : List Oper) (ops : List Oper) (as : Nat → GA) (hs : Nat → GH) (vs : Nat → Value) : Prop where
  step : ∀ (k : Nat) (o : Oper), ops[k]? = some o → as (k + 1) = (as k).put o.dst (vs k) ∧
    ((gWanted gops (as k) o = some true ∧ gStep P d call (as k).eval o (hs k) gRet = some [(vs k, hs (k + 1))]) ∨ (gWanted gops (as k) o = some false ∧ vs k = undef ∧ hs (k + 1) = hs k))
  apart : 3 ≤ d → ∀ (k : Nat) (o : Oper), ops[k]? = some o → gWanted gops (as k) o = some true → ∀ x ∈ looseAt P d gops (gops.length - ops.length + k), SameL (gLook P (as k) x (hs k)) (gLook P (as k) x (hs (k + 1)))
  clos : 3 ≤ d → ∀ (k : Nat) (o : Oper), ops[k]? = some o → gWanted gops (as k) o = some true → looseLook P d gops (gops.length - ops.length + k) = true → closed (vs k) = true

theorem trace_of {d : Nat} (hd : d ≠ 0) {call : Handle} {gops : List Oper} {β : Type} : ∀ (ops : List Oper) {i : Nat} {K : GA → GH → M β} {outs : List β} {a : GA} {H : GH}, i + ops.length = gops.length → gOps P d call gops i ops a H K = some outs →
    ∃ as hs vs, as 0 = a ∧ hs 0 = H ∧ Trace P d call gops ops as hs vs ∧ ∃ o, K (as ops.length) (hs ops.length) = some o ∧ o ⊆ outs := by
  intro ops
  induction ops with
  | nil => intro i K outs a H hi h; exact ⟨fun _ => a, fun _ => H, fun _ => undef, rfl, rfl, ⟨fun k o h => by simp at h, fun _ k o h => by simp at h, fun _ k o h => by simp at h⟩, outs, h, fun _ hx => hx⟩
  | cons o ops ih =>
    intro i K outs a H hi h
    unfold gOps at h
    have hlen : gops.length - (o :: ops).length = i := by omega
    have hlen1 : gops.length - ops.length = i + 1 := by simp only [List.length_cons] at hi; omega
    cases hw : gWanted gops a o with
    | none => rw [hw] at h; cases h
    | some b =>
      rw [hw] at h
      have key : ∀ v H1, (∃ o', gOps P d call gops (i + 1) ops (a.put o.dst v) H1 K = some o' ∧ o' ⊆ outs) → (3 ≤ d → b = true → ∀ x ∈ looseAt P d gops i, SameL (gLook P a x H) (gLook P a x H1)) → (3 ≤ d → b = true → looseLook P d gops i = true → closed v = true) →
          ((gWanted gops a o = some true ∧ gStep P d call a.eval o H gRet = some [(v, H1)]) ∨ (gWanted gops a o = some false ∧ v = undef ∧ H1 = H)) →
          ∃ as hs vs, as 0 = a ∧ hs 0 = H ∧ Trace P d call gops (o :: ops) as hs vs ∧ ∃ o', K (as (o :: ops).length) (hs (o :: ops).length) = some o' ∧ o' ⊆ outs := by
        intro v H1 ⟨o', ho', hs'⟩ hap hclo hst
        obtain ⟨as, hs, vs, h1, h2, ht, o2, h3, h4⟩ := ih (by simp only [List.length_cons] at hi; omega) ho'
        refine ⟨fun k => match k with | 0 => a | k + 1 => as k, fun k => match k with | 0 => H | k + 1 => hs k, fun k => match k with | 0 => v | k + 1 => vs k, rfl, rfl, ⟨fun k o'' hk => ?_, fun h3 k o'' hk hwk => ?_, fun h3 k o'' hk hwk => ?_⟩, o2, h3, fun x hx => hs' (h4 hx)⟩
        rotate_left
        · cases k with
          | zero =>
            simp only [List.getElem?_cons_zero, Option.some.injEq] at hk
            subst hk
            have hb : b = true := by
              have hwk : gWanted gops a o = some true := hwk
              rw [hw] at hwk
              exact Option.some.inj hwk
            rw [hlen]
            simp only [Nat.add_zero, h2]
            exact hap h3 hb
          | succ k =>
            simp only [List.getElem?_cons_succ] at hk
            have := ht.apart h3 k o'' hk hwk
            rw [hlen1] at this
            rw [hlen, show i + (k + 1) = i + 1 + k by omega]
            exact this
        · cases k with
          | zero =>
            simp only [List.getElem?_cons_zero, Option.some.injEq] at hk
            subst hk
            have hb : b = true := by
              have hwk : gWanted gops a o = some true := hwk
              rw [hw] at hwk
              exact Option.some.inj hwk
            rw [hlen]
            exact hclo h3 hb
          | succ k =>
            simp only [List.getElem?_cons_succ] at hk
            have := ht.clos h3 k o'' hk hwk
            rw [hlen1] at this
            rw [hlen, show i + (k + 1) = i + 1 + k by omega]
            exact this
        cases k with
        | zero =>
          simp only [List.getElem?_cons_zero, Option.some.injEq] at hk
          subst hk
          exact ⟨h1, by simp only [h2]; exact hst⟩
        | succ k =>
          simp only [List.getElem?_cons_succ] at hk
          exact ht.step k o'' hk
      cases b with
      | true =>
        simp only [onBool] at h
        obtain ⟨l, hl, h1, hout⟩ := Nat1.gStep P d call a.eval o H _ _ _ h
        obtain ⟨x, rfl⟩ := h1 hd
        obtain ⟨o2, ho2, hs2⟩ := hout x (List.mem_singleton.2 rfl)
        obtain ⟨g0, g3⟩ := onClosed_some (onGrd_some ho2)
        obtain ⟨g1, g2⟩ := onApart_some g0
        exact key x.1 x.2 ⟨o2, g1, hs2⟩ (fun h3 _ => g2 h3) (fun h3 _ hl => g3 (by rw [hl, decide_eq_true h3]; rfl)) (.inl ⟨hw, hl⟩)
      | false =>
        simp only [onBool] at h
        exact key undef H ⟨outs, h, fun _ hx => hx⟩ (fun _ hb => by cases hb) (fun _ hb => by cases hb) (.inr ⟨hw, rfl, rfl⟩)
end
end Go.Gh
/- The ghost machine: regions whose order is drawn: what holds while some of the operations have been carried out. -/
namespace Go.Gh
open Go.RowKit
set_option linter.unusedVariables false
set_option linter.unusedSimpArgs false

/-- The pins of the blocks below N. -/
def lim (m : PM) (N : Nat) : PM := fun b => if b < N then m b else none
theorem lim_le (m : PM) (N : Nat) : PM.le (lim m N) m := fun b p h => by
  unfold lim at h
  split at h
  · exact h
  · cases h
theorem lim_mono {m m' : PM} {N N' : Nat} (h : PM.le m m') (hN : N ≤ N') : PM.le (lim m N) (lim m' N') := fun b p hb => by
  unfold lim at hb ⊢
  split at hb
  · rw [if_pos (by omega)]; exact h b p hb
  · cases hb
theorem lim_some {m : PM} {N b : Nat} {p : Pin} (h : lim m N b = some p) : b < N ∧ m b = some p := by
  unfold lim at h
  split at h
  · exact ⟨by assumption, h⟩
  · cases h
theorem lim_of {m : PM} {N b : Nat} {p : Pin} (hb : b < N) (h : m b = some p) : lim m N b = some p := by
  unfold lim; rw [if_pos hb]; exact h
theorem le_lim {m m' : PM} {N : Nat} (h : PM.le m m') (hN : ∀ b p, m b = some p → b < N) : PM.le m (lim m' N) := fun b p hb => lim_of (hN b p hb) (h b p hb)
theorem OptVR.mono {m m' : PM} (h : PM.le m m') {x y : Option Value} (hv : OptVR m x y) : OptVR m' x y := by
  cases x <;> cases y <;> first | exact hv | exact VR.mono h hv

section
variable {P : Program} {base : Nat} {m : PM} {H : GH} {w : World}
theorem Rel.quiet (h : Rel P base m H w) {H' : GH} (hq : Quiet H H') : Rel P base m H' w :=
  ⟨fun b p hb => by rw [hq.get b (h.id_lt hb)]; exact h.obj b p hb, fun b c p q hne hb hc => by rw [hq.get b (h.id_lt hb), hq.get c (h.id_lt hc)]; exact h.inj b c p q hne hb hc, h.glob⟩
theorem Go1.quietH {m' : PM} {H' H2 : GH} {w' : World} (h : Go1 base m m' H H' w w') (hq : Quiet H' H2) : Go1 base m m' H H2 w w' where
  le := h.le
  newId := h.newId
  fresh b p hb h0 := by
    rcases h.fresh b p hb h0 with hs | ⟨c, q, h1, h2, h3⟩
    · exact .inl hs
    · exact .inr ⟨c, q, h1, h2, Nat.le_trans hq.lo h3⟩
  frame B hB hf := h.frame B hB fun b p hb hp => Nat.lt_of_lt_of_le (hf b p hb hp) hq.lo
  below := h.below
  keep := h.keep
  n := Nat.le_trans h.n hq.n
  lo := Nat.le_trans hq.lo h.lo
  same b hb hl := (hq.get b (Nat.lt_of_lt_of_le hb h.n)).trans (h.same b hb (Nat.lt_of_lt_of_le hl hq.lo))

/-- The world has grown at most. -/
structure Grown (base : Nat) (w w' : World) : Prop where
  same : ∀ B, B < w.heap.size → w'.heap[B]? = w.heap[B]?
  below : Below base w w'
  keep : Keep w w'
theorem Rel.grown (h : Rel P base m H w) {w' : World} (g : Grown base w w') : Rel P base m H w' :=
  ⟨fun b p hb => by obtain ⟨o, r, h1, h2, h3⟩ := h.obj b p hb; exact ⟨o, r, h1, (g.same _ (h.blk_lt hb)).trans h2, h3⟩, h.inj, h.glob⟩
theorem Go1.grown {m0 m' : PM} {H0 : GH} {w0 w' : World} (h : Go1 base m0 m H0 H w0 w) (g : Grown base w w') (hle : PM.le m m') (hn : ∀ b p, m' b = some p → m b = none → H0.n ≤ b ∧ w.heap.size ≤ p.blk) : Go1 base m0 m' H0 H w0 w' where
  le := h.le.trans hle
  newId b p hb h0 := by
    cases h1 : m b with
    | none => exact (hn b p hb h1).1
    | some q =>
      have := hle b q h1
      rw [hb] at this
      injection this with e
      subst e
      exact h.newId b _ h1 h0
  fresh b p hb h0 := by
    cases h1 : m b with
    | none => exact .inl (Nat.le_trans h.keep.size (hn b p hb h1).2)
    | some q =>
      have := hle b q h1
      rw [hb] at this
      injection this with e
      subst e
      exact h.fresh b _ h1 h0
  frame B hB hf := (g.same B (Nat.lt_of_lt_of_le hB h.keep.size)).trans (h.frame B hB hf)
  below := h.below.trans g.below
  keep := h.keep.trans g.keep
  n := h.n
  lo := h.lo
  same := h.same

/-- A heap of dead blocks. -/
def deadH (N : Nat) : GH := { objs := List.replicate N .dead, n := N, lo := N }
theorem deadH_get {N b : Nat} (h : b < N) : (deadH N).get b = some .dead := by
  unfold GH.get deadH
  simp only
  rw [if_pos h, List.getElem?_replicate, if_pos (by omega)]
theorem Rel.deadened (h : Rel P base m H w) (N : Nat) (hN : ∀ g, glSel g = true → g < N) : Rel P base (lim m N) (deadH N) w :=
  ⟨fun b p hb => by
    obtain ⟨h1, h2⟩ := lim_some hb
    obtain ⟨o, r, _, h3, _⟩ := h.obj b p h2
    exact ⟨.dead, r, deadH_get h1, h3, .dead⟩,
   fun b c p q _ hb hc ab ac => (by rw [deadH_get (lim_some hb).1] at ab; cases ab),
   fun g hs => by obtain ⟨p, h1, h2⟩ := h.glob g hs; exact ⟨p, lim_of (hN g hs) h1, h2⟩⟩

/-! ### While some of them have been carried out -/
variable (P) in
structure Inv (base d c : Nat) (ops : Array Oper) (as : Nat → GA) (hs : Nat → GH) (m0 : PM) (w0 : World) (act0 : Act) (listed : Array Bool) (act : Act) (w : World) (m : PM) (ν0 ν : Nat) : Prop where
  hν : ν ≤ ops.size
  h0 : ν0 ≤ ν
  calm0 : ∀ (k : Nat) (o : Oper), ops[k]? = some o → ν0 ≤ k → k < ν → opCls P c o ≠ 2
  last : ν0 = 0 ∨ ∃ i o, ν0 = i + 1 ∧ ops[i]? = some o ∧ opCls P c o = 2
  sz : listed.size = ops.size
  down : ∀ i k, listed.getD i false = true → ((Region.before ops).getD i 0).testBit k = true → listed.getD k false = true
  turned : ∀ (k : Nat) (o : Oper), ops[k]? = some o → k < ν → opCls P c o = 2 → listed.getD k false = true
  rest : ∀ (k : Nat) (o : Oper), ops[k]? = some o → ν ≤ k → opCls P c o ≠ 0 → listed.getD k false = false
  relk : ∀ k, ν0 ≤ k → k ≤ ν → Rel P base (lim m (hs k).n) (hs k) w
  go : Go1 base m0 m (hs 0) (hs ν) w0 w
  own : ∀ b p, m b = some p → m0 b = some p ∨ ∃ k o, ops[k]? = some o ∧ listed.getD k false = true ∧ (hs k).n ≤ b ∧ b < (hs (k + 1)).n
  tmp : ∀ t k, k ≤ ops.size → (∀ (i : Nat) (o : Oper), ops[i]? = some o → o.dst = some t → (i < k ↔ listed.getD i false = true)) → OptVR (lim m (hs k).n) (as k)[t]? act.tmps[t]?
  defs : act.defers = act0.defers
  hm0 : ∀ b p, m0 b = some p → b < (hs 0).n
  gl0 : GlobOk m0

variable {d c : Nat} {call : Handle} {ops : Array Oper} {as : Nat → GA} {hs : Nat → GH} {vs : Nat → Value} {m0 : PM} {w0 : World} {act0 : Act} {listed : Array Bool} {act : Act} {ν0 ν : Nat}

theorem Trace.grows (T : Trace P d call ops.toList ops.toList as hs vs) (hd : d ≠ 0) {k : Nat} (hk : k < ops.size) : (hs k).n ≤ (hs (k + 1)).n := by
  obtain ⟨_, h⟩ := T.step k ops[k] (by rw [Array.getElem?_toList]; exact Array.getElem?_eq_getElem hk)
  rcases h with ⟨_, h⟩ | ⟨_, _, h⟩
  · exact stepN hd h
  · rw [h]; exact Nat.le_refl _
theorem Trace.mono (T : Trace P d call ops.toList ops.toList as hs vs) (hd : d ≠ 0) {i j : Nat} (hij : i ≤ j) (hj : j ≤ ops.size) : (hs i).n ≤ (hs j).n := by
  induction j with
  | zero => have : i = 0 := by omega
            subst this; exact Nat.le_refl _
  | succ j ih =>
    rcases Nat.lt_or_ge i (j + 1) with h | h
    · exact Nat.le_trans (ih (by omega) (by omega)) (T.grows hd (by omega))
    · have : i = j + 1 := by omega
      subst this; exact Nat.le_refl _
theorem cls_le (c : Nat) (hc : c = 1 ∨ c = 2 ∨ 3 ≤ c) (o : Oper) : opCls P c o = 0 ∨ opCls P c o = 1 ∨ opCls P c o = 2 := by
  unfold opCls
  (repeat' split) <;> omega
theorem Trace.calm (T : Trace P d call ops.toList ops.toList as hs vs) (hcd : (c = 1 ∧ d = 2) ∨ (c = 2 ∧ d = 1) ∨ (c = d ∧ 3 ≤ d)) {k : Nat} {o : Oper} (ho : ops[k]? = some o) (h2 : opCls P c o ≠ 2) : Quiet (hs k) (hs (k + 1)) := by
  obtain ⟨_, h⟩ := T.step k o (by rw [Array.getElem?_toList]; exact ho)
  rcases h with ⟨_, h⟩ | ⟨_, _, h⟩
  · rcases cls_le (P := P) c (by omega) o with h0 | h0 | h0
    · obtain ⟨v, e, _⟩ := step0 (by omega) h0 h
      injection e with e _
      injection e with _ e
      rw [e]; exact .refl _
    · exact (step1 hcd h0 h).1
    · exact absurd h0 h2
  · rw [h]; exact .refl _
theorem Trace.calms (T : Trace P d call ops.toList ops.toList as hs vs) (hcd : (c = 1 ∧ d = 2) ∨ (c = 2 ∧ d = 1) ∨ (c = d ∧ 3 ≤ d)) {i j : Nat} (hij : i ≤ j) (hj : j ≤ ops.size)
    (h : ∀ (k : Nat) (o : Oper), ops[k]? = some o → i ≤ k → k < j → opCls P c o ≠ 2) : Quiet (hs i) (hs j) := by
  induction j with
  | zero => have : i = 0 := by omega
            subst this; exact .refl _
  | succ j ih =>
    rcases Nat.lt_or_ge i (j + 1) with hh | hh
    · have hj' : j < ops.size := by omega
      exact (ih (by omega) (by omega) fun k o ho h1 h2 => h k o ho h1 (by omega)).trans (T.calm hcd (Array.getElem?_eq_getElem hj') (h j _ (Array.getElem?_eq_getElem hj') (by omega) (by omega)))
    · have : i = j + 1 := by omega
      subst this; exact .refl _
theorem Trace.put_other (T : Trace P d call ops.toList ops.toList as hs vs) {k : Nat} {o : Oper} (ho : ops[k]? = some o) {t : Nat} (ht : o.dst ≠ some t) : (as (k + 1))[t]? = (as k)[t]? := by
  obtain ⟨e, _⟩ := T.step k o (by rw [Array.getElem?_toList]; exact ho)
  rw [e]
  cases hd : o.dst with
  | none => rfl
  | some d =>
    have : d ≠ t := fun e => ht (by rw [hd, e])
    simp [GA.put, List.getElem?_set_ne this]
theorem Trace.same (T : Trace P d call ops.toList ops.toList as hs vs) {i j t : Nat} (hij : i ≤ j) (hj : j ≤ ops.size) (h : ∀ (k : Nat) (o : Oper), ops[k]? = some o → i ≤ k → k < j → o.dst ≠ some t) : (as j)[t]? = (as i)[t]? := by
  induction j with
  | zero => have : i = 0 := by omega
            subst this; rfl
  | succ j ih =>
    rcases Nat.lt_or_ge i (j + 1) with hh | hh
    · have hj' : j < ops.size := by omega
      exact (T.put_other (Array.getElem?_eq_getElem hj') (h j _ (Array.getElem?_eq_getElem hj') (by omega) (by omega))).trans (ih (by omega) (by omega) fun k o ho h1 h2 => h k o ho h1 (by omega))
    · have : i = j + 1 := by omega
      subst this; rfl

theorem getD_set_self {listed : Array Bool} {j : Nat} (hj : j < listed.size) : (listed.setIfInBounds j true).getD j false = true := by
  rw [Array.getD_eq_getD_getElem?, Array.getElem?_setIfInBounds_self_of_lt hj]; rfl
theorem getD_set_other {listed : Array Bool} {j k : Nat} (h : j ≠ k) : (listed.setIfInBounds j true).getD k false = listed.getD k false := by
  rw [Array.getD_eq_getD_getElem?, Array.getD_eq_getD_getElem?, Array.getElem?_setIfInBounds_ne h]
theorem getD_set_mono {listed : Array Bool} {j k : Nat} (h : listed.getD k false = true) : (listed.setIfInBounds j true).getD k false = true := by
  by_cases e : j = k
  · subst e
    refine getD_set_self ?_
    rcases Nat.lt_or_ge j listed.size with hl | hl
    · exact hl
    · rw [Array.getD_eq_getD_getElem?, Array.getElem?_eq_none hl] at h; cases h
  · rw [getD_set_other e]; exact h
theorem ready_un {j : Nat} (hr : j ∈ Region.ready .any ops listed) : listed.getD j false = false := by
  have := (mem_ready.1 hr).1
  rcases Nat.lt_or_ge j listed.size with hl | hl
  · rw [Array.getD_eq_getD_getElem?, Array.getElem?_eq_getElem hl] at this ⊢
    exact this
  · rw [Array.getD_eq_getD_getElem?, Array.getElem?_eq_none hl] at this; cases this

theorem Inv.ready_before (I : Inv P base d c ops as hs m0 w0 act0 listed act w m ν0 ν) {j k : Nat} (hr : j ∈ Region.ready .any ops listed) (h : ((Region.before ops).getD j 0).testBit k = true) : listed.getD k false = true := by
  obtain ⟨_, o, ho, hall⟩ := mem_ready.1 hr
  obtain ⟨e, he, hb, h⟩ := before_spec ho h
  have := hall e he hb
  rcases h with rfl | h
  · exact this
  · exact I.down _ _ this h

theorem Inv.dom (I : Inv P base d c ops as hs m0 w0 act0 listed act w m ν0 ν) (T : Trace P d call ops.toList ops.toList as hs vs) (hcd : (c = 1 ∧ d = 2) ∨ (c = 2 ∧ d = 1) ∨ (c = d ∧ 3 ≤ d)) {b : Nat} {p : Pin} (hb : m b = some p) : b < (hs ν).n := by
  rcases I.own b p hb with h | ⟨k, o, hk, hl, h1, h2⟩
  · exact Nat.lt_of_lt_of_le (I.hm0 b p h) (T.mono (by omega) (Nat.zero_le _) I.hν)
  · have hks : k < ops.size := (Array.getElem?_eq_some_iff.1 hk).1
    rcases Nat.lt_or_ge k ν with hlt | hge
    · exact Nat.lt_of_lt_of_le h2 (T.mono (by omega) hlt I.hν)
    · by_cases h0 : opCls P c o = 0
      · obtain ⟨_, h⟩ := T.step k o (by rw [Array.getElem?_toList]; exact hk)
        have e : hs (k + 1) = hs k := by
          rcases h with ⟨_, h⟩ | ⟨_, _, h⟩
          · obtain ⟨v, e, _⟩ := step0 (by omega) h0 h
            injection e with e _
            injection e with _ e
          · exact h
        rw [e] at h2
        omega
      · rw [I.rest k o hk hge h0] at hl; cases hl
theorem Inv.lim_eq (I : Inv P base d c ops as hs m0 w0 act0 listed act w m ν0 ν) (T : Trace P d call ops.toList ops.toList as hs vs) (hcd : (c = 1 ∧ d = 2) ∨ (c = 2 ∧ d = 1) ∨ (c = d ∧ 3 ≤ d)) {N : Nat} (hN : (hs ν).n ≤ N) : lim m N = m := by
  funext b
  unfold lim
  split
  · rfl
  · cases hb : m b with
    | none => rfl
    | some p => have := I.dom T hcd hb; omega
theorem Inv.rel (I : Inv P base d c ops as hs m0 w0 act0 listed act w m ν0 ν) (T : Trace P d call ops.toList ops.toList as hs vs) (hcd : (c = 1 ∧ d = 2) ∨ (c = 2 ∧ d = 1) ∨ (c = d ∧ 3 ≤ d)) : Rel P base m (hs ν) w := by
  have := I.relk ν I.h0 (Nat.le_refl _)
  rw [I.lim_eq T hcd (Nat.le_refl _)] at this
  exact this

/-- On to a later place: only where nothing is turned in between. -/
theorem Inv.shift (I : Inv P base d c ops as hs m0 w0 act0 listed act w m ν0 ν) (T : Trace P d call ops.toList ops.toList as hs vs) (hcd : (c = 1 ∧ d = 2) ∨ (c = 2 ∧ d = 1) ∨ (c = d ∧ 3 ≤ d)) {ν' : Nat} (h1 : ν ≤ ν') (h2 : ν' ≤ ops.size)
    (h : ∀ (k : Nat) (o : Oper), ops[k]? = some o → ν ≤ k → k < ν' → opCls P c o ≠ 2) : Inv P base d c ops as hs m0 w0 act0 listed act w m ν0 ν' where
  hν := h2
  h0 := Nat.le_trans I.h0 h1
  calm0 k o ho hge hlt := by
    rcases Nat.lt_or_ge k ν with hl | hl
    · exact I.calm0 k o ho hge hl
    · exact h k o ho hl hlt
  last := I.last
  sz := I.sz
  down := I.down
  turned k o ho hk hc := by
    rcases Nat.lt_or_ge k ν with hl | hl
    · exact I.turned k o ho hl hc
    · exact absurd hc (h k o ho hl hk)
  rest k o ho hk hc := I.rest k o ho (by omega) hc
  relk k hge hle := by
    rcases Nat.lt_or_ge ν k with hl | hl
    · have hq := T.calms hcd (j := k) (Nat.le_of_lt hl) (by omega) fun k' o ho a b => h k' o ho a (by omega)
      have e : lim m (hs k).n = lim m (hs ν).n := by
        rw [I.lim_eq T hcd (Nat.le_refl _), I.lim_eq T hcd hq.n]
      rw [e]
      exact (I.relk ν I.h0 (Nat.le_refl _)).quiet hq
    · exact I.relk k hge hl
  go := I.go.quietH (T.calms hcd h1 h2 h)
  own := I.own
  tmp := I.tmp
  defs := I.defs
  hm0 := I.hm0
  gl0 := I.gl0

/-- The known package variables are there all along. -/
theorem Inv.glb (I : Inv P base d c ops as hs m0 w0 act0 listed act w m ν0 ν) (T : Trace P d call ops.toList ops.toList as hs vs) (hd : d ≠ 0) {k : Nat} (hk : k ≤ ops.size) : GlobOk (lim m (hs k).n) := fun g hg => by
  obtain ⟨p, h1, h2⟩ := I.gl0 g hg
  exact ⟨p, lim_of (Nat.lt_of_lt_of_le (I.hm0 g p h1) (T.mono hd (Nat.zero_le _) hk)) (I.go.le _ _ h1), h2⟩
/-- What an operation that may come now looks at. -/
theorem Inv.sees (I : Inv P base d c ops as hs m0 w0 act0 listed act w m ν0 ν) (hT : tmpsOk ops = true) {j : Nat} {o : Oper} (hj : ops[j]? = some o) (hr : j ∈ Region.ready .any ops listed) {t : Nat} (ht : t ∈ o.looksAt ops) :
    OptVR (lim m (hs j).n) (as j)[t]? act.tmps[t]? := by
  have hjs : j < ops.size := (Array.getElem?_eq_some_iff.1 hj).1
  refine I.tmp t j (by omega) fun i oi hi hd => ⟨fun hij => ?_, fun hl => ?_⟩
  · rcases tmpsOk_spec hT hi hj hij with hb | ⟨h1, _⟩
    · exact I.ready_before hr hb
    · exact absurd (by unfold opTmps; exact List.mem_append_right _ ht) (h1 t hd)
  · rcases Nat.lt_trichotomy i j with hlt | heq | hgt
    · exact hlt
    · subst heq; rw [ready_un hr] at hl; cases hl
    · rcases tmpsOk_spec hT hj hi hgt with hb | ⟨_, h2⟩
      · have := I.down i j hl hb
        rw [ready_un hr] at this; cases this
      · exact absurd (by unfold opTmps; exact List.mem_append_right _ ht) (h2 t hd)

/-- One more has been carried out. -/
theorem Inv.adv (I : Inv P base d c ops as hs m0 w0 act0 listed act w m ν0 ν) (T : Trace P d call ops.toList ops.toList as hs vs) (hd0 : d ≠ 0) (hT : tmpsOk ops = true) {j : Nat} {o : Oper} (hj : ops[j]? = some o)
    (hr : j ∈ Region.ready .any ops listed) {v' : Value} {w' : World} {m' : PM} {ν0' ν' : Nat} (hν : ν' ≤ ops.size) (h0' : ν0' ≤ ν') (hc0 : ∀ (k : Nat) (o : Oper), ops[k]? = some o → ν0' ≤ k → k < ν' → opCls P c o ≠ 2) (hlast : ν0' = 0 ∨ ∃ i o, ν0' = i + 1 ∧ ops[i]? = some o ∧ opCls P c o = 2) (hle : PM.le m m') (hv : VR (lim m' (hs (j + 1)).n) (vs j) v')
    (hmut : ∀ (k : Nat) (o : Oper), ops[k]? = some o → k < ν' → opCls P c o = 2 → k = j ∨ listed.getD k false = true)
    (hrest : ∀ (k : Nat) (o : Oper), ops[k]? = some o → ν' ≤ k → opCls P c o ≠ 0 → k ≠ j ∧ listed.getD k false = false)
    (hrel : ∀ k, ν0' ≤ k → k ≤ ν' → Rel P base (lim m' (hs k).n) (hs k) w') (hgo : Go1 base m0 m' (hs 0) (hs ν') w0 w')
    (hown : ∀ b p, m' b = some p → m b = some p ∨ ((hs j).n ≤ b ∧ b < (hs (j + 1)).n)) :
    Inv P base d c ops as hs m0 w0 act0 (listed.setIfInBounds j true) (act.put o.dst v') w' m' ν0' ν' := by
  have hjs : j < ops.size := (Array.getElem?_eq_some_iff.1 hj).1
  have hjl : j < listed.size := by rw [I.sz]; exact hjs
  refine ⟨hν, h0', hc0, hlast, by simpa using I.sz, fun i k hi hb => ?_, fun k ok hk hlt hc => ?_, fun k ok hk hge hc => ?_, hrel, hgo, fun b p hb => ?_, fun t k hk hw => ?_, (put_defers act o.dst v').trans I.defs, I.hm0, I.gl0⟩
  · by_cases e : j = i
    · subst e; exact getD_set_mono (I.ready_before hr hb)
    · rw [getD_set_other e] at hi; exact getD_set_mono (I.down i k hi hb)
  · rcases hmut k ok hk hlt hc with rfl | h
    · exact getD_set_self hjl
    · exact getD_set_mono h
  · obtain ⟨h1, h2⟩ := hrest k ok hk hge hc
    rw [getD_set_other (Ne.symm h1)]; exact h2
  · rcases hown b p hb with h | ⟨h1, h2⟩
    · rcases I.own b p h with h | ⟨k, ok, hk, hl, h1, h2⟩
      · exact .inl h
      · exact .inr ⟨k, ok, hk, getD_set_mono hl, h1, h2⟩
    · exact .inr ⟨j, o, hj, getD_set_self hjl, h1, h2⟩
  · by_cases hdt : o.dst = some t
    · -- what it writes
      have hjk : j < k := (hw j o hj hdt).2 (getD_set_self hjl)
      have hnone : ∀ (i : Nat) (oi : Oper), ops[i]? = some oi → j + 1 ≤ i → i < k → oi.dst ≠ some t := fun i oi hi h1 h2 hdi => by
        have hl := (hw i oi hi hdi).1 h2
        rw [getD_set_other (by omega)] at hl
        rcases tmpsOk_spec hT hj hi (by omega) with hb | ⟨h3, _⟩
        · have := I.down i j hl hb
          rw [ready_un hr] at this; cases this
        · exact h3 t hdt (by unfold opTmps; rw [hdi]; simp)
      have e1 := T.same (t := t) (i := j + 1) (j := k) (by omega) hk hnone
      obtain ⟨e2, _⟩ := T.step j o (by rw [Array.getElem?_toList]; exact hj)
      rw [e1, e2]
      have hold : OptVR (lim m (hs j).n) (as j)[t]? act.tmps[t]? := by
        refine I.tmp t j (by omega) fun i oi hi hdi => ⟨fun hij => ?_, fun hl => ?_⟩
        · rcases tmpsOk_spec hT hi hj hij with hb | ⟨h1, _⟩
          · exact I.ready_before hr hb
          · exact absurd (by unfold opTmps; rw [hdt]; simp) (h1 t hdi)
        · rcases Nat.lt_trichotomy i j with hlt | heq | hgt
          · exact hlt
          · subst heq; rw [ready_un hr] at hl; cases hl
          · rcases tmpsOk_spec hT hj hi hgt with hb | ⟨h1, _⟩
            · have := I.down i j hl hb
              rw [ready_un hr] at this; cases this
            · exact absurd (by unfold opTmps; rw [hdi]; simp) (h1 t hdt)
      rw [hdt]
      simp only [GA.put, Act.put]
      rw [List.getElem?_set, Array.getElem?_setIfInBounds]
      simp only [if_true]
      cases hx : (as j)[t]? with
      | none =>
        rw [hx] at hold
        have h1 : ¬ t < (as j).length := Nat.not_lt.2 (List.getElem?_eq_none_iff.1 hx)
        cases hy : act.tmps[t]? with
        | some _ => rw [hy] at hold; exact hold.elim
        | none =>
          have h2 : ¬ t < act.tmps.size := Nat.not_lt.2 (Array.getElem?_eq_none_iff.1 hy)
          rw [if_neg h1, if_neg h2]; trivial
      | some u =>
        rw [hx] at hold
        have h1 : t < (as j).length := (List.getElem?_eq_some_iff.1 hx).1
        cases hy : act.tmps[t]? with
        | none => rw [hy] at hold; exact hold.elim
        | some u' =>
          have h2 : t < act.tmps.size := (Array.getElem?_eq_some_iff.1 hy).1
          rw [if_pos h1, if_pos h2]
          exact hv.mono (lim_mono (.refl _) (T.mono hd0 (by omega) hk))
    · have hother : (act.put o.dst v').tmps[t]? = act.tmps[t]? := by
        cases hd : o.dst with
        | none => rfl
        | some d =>
          have : d ≠ t := fun e => hdt (by rw [hd, e])
          simp [Act.put, Array.getElem?_setIfInBounds_ne this]
      rw [hother]
      refine (I.tmp t k hk fun i oi hi hdi => ?_).mono (lim_mono hle (Nat.le_refl _))
      have hij : j ≠ i := fun e => by subst e; rw [hj] at hi; injection hi with hi; subst hi; exact hdt hdi
      rw [hw i oi hi hdi, getD_set_other hij]
end
end Go.Gh
