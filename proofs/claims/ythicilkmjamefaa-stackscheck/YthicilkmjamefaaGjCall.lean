/- The ghost machine: calls and rounds. -/
import Derived.Test.YthicilkmjamefaaGiCodeB
namespace Go.Gh
open Go.RowKit
set_option linter.unusedVariables false
set_option linter.unusedSimpArgs false

section
variable {P : Program} {base : Nat} {F : Fence} {n : Nat}

/-! ### A function's end -/
theorem Rel.shut {m : PM} {H : GH} {w : World} (hR : Rel P base m H w) {D : Nat} {ds : Option (List Deferred)} (hD : w.heap[D]? = some (.deferred ds)) {w' : World} {o : Obj} (hh : w'.heap = w.heap.setIfInBounds D o) : Rel P base m H w' := by
  refine ⟨fun b p hb => ?_, hR.inj⟩
  obtain ⟨g, r, h1, h2, h3⟩ := hR.obj b p hb
  by_cases e : D = p.blk
  · subst e
    rw [hD] at h2
    injection h2 with h2
    subst h2
    cases h3
    exact ⟨.dead, o, h1, by rw [hh]; exact Array.getElem?_setIfInBounds_self_of_lt (hR.blk_lt hb), .dead⟩
  · exact ⟨g, r, h1, by rw [hh, Array.getElem?_setIfInBounds_ne e]; exact h2, h3⟩
theorem Go1.shut {m m' : PM} {H H' : GH} {w0 w w' : World} (h : Go1 base m m' H H' w0 w) {D : Nat} {o : Obj} (hD : w0.heap.size ≤ D) (hb : base ≤ w0.heap.size) (hh : w'.heap = w.heap.setIfInBounds D o)
    (h1 : w'.os = w.os) (h2 : w'.tape = w.tape) (h3 : w'.output = w.output) : Go1 base m m' H H' w0 w' := by
  have hsz : w'.heap.size = w.heap.size := by rw [hh]; simp
  have hot : ∀ B, B < w0.heap.size → w'.heap[B]? = w.heap[B]? := fun B hB => by rw [hh, Array.getElem?_setIfInBounds_ne (by omega)]
  refine ⟨h.le, h.newId, h.fresh, fun B hB hf => (hot B hB).trans (h.frame B hB hf), h.below.trans ⟨h1, h2, h3, by omega, fun k hk => hot k (by omega)⟩, ⟨by rw [hsz]; exact h.keep.size, fun L r hr => ?_, fun D' ds hd => ?_⟩, h.n, h.lo, h.same⟩
  · obtain ⟨r', hr'⟩ := h.keep.loop L r hr
    exact ⟨r', by rw [hot L (Array.getElem?_eq_some_iff.1 hr).1]; exact hr'⟩
  · rw [hot D' (Array.getElem?_eq_some_iff.1 hd).1]
    exact h.keep.defs D' ds hd

theorem leave_marks {fn : Func} {tmps : Array Value} {R : Ending → World → Prop} {m m' : PM} {H H' : GH} {w0 : World} (hb : base ≤ w0.heap.size) : ∀ (ds : List Nat) (w : World), (∀ D ∈ ds, w0.heap.size ≤ D ∧ w.heap[D]? = some (.deferred (some []))) → ds.Nodup →
    Rel P base m' H' w → Go1 base m m' H H' w0 w → (∀ w', Rel P base m' H' w' → Go1 base m m' H H' w0 w' → ∃ v, (results fn tmps).run P w' = .ok v w' ∧ R (.returned v) w') →
    LeavesInM F n P fn tmps R (ds.map markOf) .returning w := by
  intro ds
  induction ds with
  | nil => intro w _ _ hR hG h; exact h w hR hG
  | cons D ds ih =>
    intro w hD hnd hR hG h
    obtain ⟨h1, h2⟩ := hD D (by simp)
    rw [List.nodup_cons] at hnd
    refine ⟨by simp, .inl ⟨D, { w with heap := w.heap.setIfInBounds D (.deferred none) }, rfl, ?_, ?_⟩⟩
    · simp [Instr.takeDeferred, run_getObj (P := P) h2 (by intro _ _ _ h; cases h), setObj, Sem.run, h2]
    · refine ih _ (fun D' hD' => ?_) hnd.2 (hR.shut h2 rfl) (hG.shut h1 hb rfl rfl rfl rfl) h
      obtain ⟨h3, h4⟩ := hD D' (by simp [hD'])
      refine ⟨h3, ?_⟩
      have hne : D ≠ D' := fun e => by subst e; exact hnd.1 hD'
      show (w.heap.setIfInBounds D (.deferred none))[D']? = _
      rw [Array.getElem?_setIfInBounds_ne hne]
      exact h4

/-- What one result is read from. -/
def resRun (tmps : Array Value) : ResultVar → Sem Value
  | .tmp t => pure (tmps.getD t undef)
  | .cell b t => do loadVar t (← asAddr (tmps.getD b undef))
theorem results_eq (fn : Func) (tmps : Array Value) : results fn tmps = (do
    let vs ← fn.results.mapM (resRun tmps)
    pure (if h : vs.size = 1 then vs[0] else .tuple vs)) := by
  unfold results
  congr 1
theorem gResult_run {a : GA} {m : PM} {H : GH} {w : World} {tmps : Array Value} (hA : VRs m a tmps.toList) (hR : Rel P base m H w) : ∀ (rs : List ResultVar) (vs : List Value), rs.mapM (m := Option) (gResult P a H) = some vs →
    ∃ vs', (rs.mapM (m := Sem) (resRun tmps)).run P w = .ok vs' w ∧ VRs m vs vs' := by
  have hget : ∀ t : Nat, VR m (a.getD t undef) (tmps.getD t undef) := fun t => by
    have := hA.getD t VR.undef
    rw [Array.getD_eq_getD_getElem?, ← Array.getElem?_toList, ← List.getD_eq_getElem?_getD]
    exact this
  intro rs
  induction rs with
  | nil => intro vs h; simp at h; subst h; exact ⟨[], rfl, .nil⟩
  | cons r rs ih =>
    intro vs h
    rw [List.mapM_cons] at h
    simp only [Option.bind_eq_bind, Option.bind_eq_some_iff, Option.pure_def, Option.some.injEq] at h
    obtain ⟨v, hv, us, hus, rfl⟩ := h
    obtain ⟨us', h1, h2⟩ := ih us hus
    cases r with
    | tmp t =>
      simp only [gResult, Option.some.injEq] at hv
      subst hv
      refine ⟨tmps.getD t undef :: us', ?_, .cons (hget t) h2⟩
      rw [List.mapM_cons]
      simp only [resRun, Sem.run_bind, Sem.run_pure, Result.andThen_ok, h1]
    | cell b t =>
      simp only [gResult] at hv
      obtain ⟨u', h3, h4⟩ := gLoad_VR hv (hget b) hR
      refine ⟨u' :: us', ?_, .cons h4 h2⟩
      rw [List.mapM_cons]
      have h5 : (do loadVar t (← asAddr (tmps.getD b undef)) : Sem Value).run P w = .ok u' w := by
        have hp := hget b
        unfold gLoad at hv
        split at hv
        · next bb oo hb2 =>
          generalize tmps.getD b undef = z at hp h3
          rw [hb2] at hp
          obtain ⟨b', p, o', e, _, rfl⟩ := hp.ptr_inv
          simpa [Instr.loadAt, Instr.sureAddr, asAddr] using h3
        · cases hv
      simp only [resRun, Sem.run_bind] at h5 ⊢
      rw [h5]
      simp only [Sem.run_pure, Result.andThen_ok, h1]

theorem results_run {fn : Func} {a : GA} {m : PM} {H : GH} {w : World} {tmps : Array Value} {v : Value} (hA : VRs m a tmps.toList) (hR : Rel P base m H w) (h : gResults P fn a H = some v) :
    ∃ v', (results fn tmps).run P w = .ok v' w ∧ VR m v v' := by
  unfold gResults at h
  obtain ⟨vs, hvs, rfl⟩ := Option.map_eq_some_iff.1 h
  obtain ⟨vs', h1, h2⟩ := gResult_run hA hR _ _ hvs
  have h3 : (fn.results.mapM (m := Sem) (resRun tmps)).run P w = .ok vs'.toArray w := by
    rw [← Array.toArray_toList (xs := fn.results), List.mapM_toArray]
    simp only [Sem.run_map, h1, Result.andThen_ok]
  rw [results_eq, Sem.run_bind, h3]
  simp only [Result.andThen_ok, Sem.run_pure]
  refine ⟨_, rfl, ?_⟩
  match vs, vs', h2 with
  | [], [], h2 => exact .tuple _ _ rfl (fun i hi => absurd hi (by simp))
  | [x], [y], h2 => exact h2.head
  | x1 :: x2 :: xs, y1 :: y2 :: ys, h2 => exact .tupA (by simpa using h2)
  | [], y :: ys, h2 => exact absurd h2.1 (by simp)
  | [x], [], h2 => exact absurd h2.1 (by simp)
  | [x], y1 :: y2 :: ys, h2 => exact absurd h2.1 (by simp)
  | x1 :: x2 :: xs, [], h2 => exact absurd h2.1 (by simp)
  | x1 :: x2 :: xs, [y], h2 => exact absurd h2.1 (by simp)

theorem func_sound {call : Handle} (hc : HOk P call) (hmix : P.follows .mixedOrders = true) {k : Nat} {f : FuncId} {fn : Func} (hf : P.funcs[f]? = some fn) (hok : funcOk fn = true) {args args' : List Value} {H : GH} {outs : List (Value × GH)}
    (h : gFunc P call k fn args H = some outs) {m : PM} {w : World} (ha : VRs m args args') (hR : Rel P base m H w) (hb : base ≤ w.heap.size) :
    CallsIn Fence.wide n P f args'.toArray w (Ret fun v' w' => ∃ x ∈ outs, ∃ m', VR m' x.1 v' ∧ Rel P base m' x.2 w' ∧ Go1 base m m' H x.2 w w') := by
  unfold gFunc at h
  split at h
  case h_2 => cases h
  next c hbody =>
  have hcok : codeOk c = true := by
    unfold funcOk at hok
    rw [hbody] at hok
    simp only [Bool.and_eq_true] at hok
    exact hok.1
  refine callsIn_of_wp_marks hf hbody trivial ?_
  have hA : VRs m (gEnter fn.ntmps args) (args'.toArray ++ Array.replicate (fn.ntmps - args'.toArray.size) undef).toList := by
    simp only [Array.toList_append, Array.toList_replicate, List.size_toArray, gEnter, ha.1]
    refine ha.append (VRs.of_get? rfl fun i u v hu hv => ?_)
    rw [hu] at hv
    injection hv with e
    subst e
    rw [List.getElem?_replicate] at hu
    split at hu
    · injection hu with hu; subst hu; exact VR.undef
    · cases hu
  refine code_sound (F := Fence.wide) (n := n) (base := base) (.inl rfl) hc hmix k c hcok (K := hFin P fn) (outs := outs) h hA hR hb (fun l hl => by cases hl) fun e a1 H1 m1 w1 act1 o hk hs hat => ?_
  have key : ∀ v, gResults P fn a1 H1 = some v → o = [(v, H1)] → LeavesInM Fence.wide n P fn act1.tmps (Ret fun v' w' => ∃ x ∈ outs, ∃ m', VR m' x.1 v' ∧ Rel P base m' x.2 w' ∧ Go1 base m m' H x.2 w w') act1.defers .returning w1 := by
    intro v hv ho
    obtain ⟨ds, h1, h2, h3⟩ := hat.marks
    rw [h1]
    simp only [List.append_nil]
    refine leave_marks hb ds w1 h3 h2 hat.rel hat.go fun w' hR' hG' => ?_
    obtain ⟨v', hr, hvr⟩ := results_run hat.tmps hR' hv
    exact ⟨v', hr, (v, H1), hs (by rw [ho]; simp), m1, hvr, hR', hG'⟩
  have hk' : ∀ e', hFin P fn e' a1 H1 = some o → (∀ id, e' ≠ .exit id) → ∃ v, gResults P fn a1 H1 = some v ∧ o = [(v, H1)] := by
    intro e' hk hne
    cases e' with
    | exit id => exact absurd rfl (hne id)
    | normal =>
      obtain ⟨v, h1, h2⟩ := onV_ret (H := H1) hk
      exact ⟨v, h1, h2⟩
    | ret =>
      obtain ⟨v, h1, h2⟩ := onV_ret (H := H1) hk
      exact ⟨v, h1, h2⟩
  cases e with
  | exit id => cases hk
  | normal =>
    obtain ⟨v, h1, h2⟩ := hk' .normal hk (fun id h => by cases h)
    exact key v h1 h2
  | ret =>
    obtain ⟨v, h1, h2⟩ := hk' .ret hk (fun id h => by cases h)
    exact key v h1 h2
end
end Go.Gh
