/- The ghost machine: calls and rounds. -/
import Derived.Test.YtdhadannleldiaaDoorGiCode
namespace Go.Gh
open Go.RowKit
set_option linter.unusedVariables false
set_option linter.unusedSimpArgs false

section
variable {P : Program} {base : Nat} {F : Fence} {n : Nat}

/-! ### A function's end -/
theorem Rel.shut {m : PM} {H : GH} {w : World} (hR : Rel P base m H w) {D : Nat} {ds : Option (List Deferred)} (hD : w.heap[D]? = some (.deferred ds)) {w' : World} {o : Obj} (hh : w'.heap = w.heap.setIfInBounds D o) : Rel P base m H w' := by
  refine ⟨fun b p hb => ?_, hR.inj, hR.glob⟩
  obtain ⟨g, r, h1, h2, h3⟩ := hR.obj b p hb
  by_cases e : D = p.blk
  · subst e
    rw [hD] at h2
    injection h2 with h2
    subst h2
    cases h3
    exact ⟨.dead, o, h1, by rw [hh]; exact Array.getElem?_setIfInBounds_self_of_lt (hR.blk_lt hb), .dead⟩
  · exact ⟨g, r, h1, by rw [hh, Array.getElem?_setIfInBounds_ne e]; exact h2, h3⟩
theorem Go1.shut {m m' : PM} {H H' : GH} {w0 w w' : World} (h : Go1 base m m' H H' w0 w) {D : Nat} {o : Obj} (hD : w0.heap.size ≤ D) (hb : base ≤ w0.heap.size) (hh : w'.heap = w.heap.setIfInBounds D o)
    (h1 : w'.os = w.os) (h2 : w'.tape = w.tape) (h3 : w'.output = w.output) : Go1 base m m' H H' w0 w' := by
  have hsz : w'.heap.size = w.heap.size := by rw [hh]; simp
  have hot : ∀ B, B < w0.heap.size → w'.heap[B]? = w.heap[B]? := fun B hB => by rw [hh, Array.getElem?_setIfInBounds_ne (by omega)]
  refine ⟨h.le, h.newId, h.fresh, fun B hB hf => (hot B hB).trans (h.frame B hB hf), h.below.trans ⟨h1, h2, h3, by omega, fun k hk => hot k (by omega)⟩, ⟨by rw [hsz]; exact h.keep.size, fun L r hr => ?_, fun D' ds hd => ?_⟩, h.n, h.lo, h.same⟩
  · obtain ⟨r', hr'⟩ := h.keep.loop L r hr
    exact ⟨r', by rw [hot L (Array.getElem?_eq_some_iff.1 hr).1]; exact hr'⟩
  · rw [hot D' (Array.getElem?_eq_some_iff.1 hd).1]
    exact h.keep.defs D' ds hd

theorem leave_marks {fn : Func} {tmps : Array Value} {R : Ending → World → Prop} {m m' : PM} {H H' : GH} {w0 : World} (hb : base ≤ w0.heap.size) : ∀ (ds : List Nat) (w : World), (∀ D ∈ ds, w0.heap.size ≤ D ∧ w.heap[D]? = some (.deferred (some []))) → ds.Nodup →
    Rel P base m' H' w → Go1 base m m' H H' w0 w → (∀ w', Rel P base m' H' w' → Go1 base m m' H H' w0 w' → ∃ v, (results fn tmps).run P w' = .ok v w' ∧ R (.returned v) w') →
    LeavesInM F n P fn tmps R (ds.map markOf) .returning w := by
  intro ds
  induction ds with
  | nil => intro w _ _ hR hG h; exact h w hR hG
  | cons D ds ih =>
    intro w hD hnd hR hG h
    obtain ⟨h1, h2⟩ := hD D (by simp)
    rw [List.nodup_cons] at hnd
    refine ⟨by simp, .inl ⟨D, { w with heap := w.heap.setIfInBounds D (.deferred none) }, rfl, ?_, ?_⟩⟩
    · simp [Instr.takeDeferred, run_getObj (P := P) h2 (by intro _ _ _ h; cases h), setObj, Sem.run, h2]
    · refine ih _ (fun D' hD' => ?_) hnd.2 (hR.shut h2 rfl) (hG.shut h1 hb rfl rfl rfl rfl) h
      obtain ⟨h3, h4⟩ := hD D' (by simp [hD'])
      refine ⟨h3, ?_⟩
      have hne : D ≠ D' := fun e => by subst e; exact hnd.1 hD'
      show (w.heap.setIfInBounds D (.deferred none))[D']? = _
      rw [Array.getElem?_setIfInBounds_ne hne]
      exact h4

/-- What one result is read from. -/
def resRun (tmps : Array Value) : ResultVar → Sem Value
  | .tmp t => pure (tmps.getD t undef)
  | .cell b t => do loadVar t (← asAddr (tmps.getD b undef))
theorem results_eq (fn : Func) (tmps : Array Value) : results fn tmps = (do
    let vs ← fn.results.mapM (resRun tmps)
    pure (if h : vs.size = 1 then vs[0] else .tuple vs)) := by
  unfold results
  congr 1
theorem gResult_run {a : GA} {m : PM} {H : GH} {w : World} {tmps : Array Value} (hA : VRs m a tmps.toList) (hR : Rel P base m H w) : ∀ (rs : List ResultVar) (vs : List Value), rs.mapM (m := Option) (gResult P a H) = some vs →
    ∃ vs', (rs.mapM (m := Sem) (resRun tmps)).run P w = .ok vs' w ∧ VRs m vs vs' := by
  have hget : ∀ t : Nat, VR m (a.getD t undef) (tmps.getD t undef) := fun t => by
    have := hA.getD t VR.undef
    rw [Array.getD_eq_getD_getElem?, ← Array.getElem?_toList, ← List.getD_eq_getElem?_getD]
    exact this
  intro rs
  induction rs with
  | nil => intro vs h; simp at h; subst h; exact ⟨[], rfl, .nil⟩
  | cons r rs ih =>
    intro vs h
    rw [List.mapM_cons] at h
    simp only [Option.bind_eq_bind, Option.bind_eq_some_iff, Option.pure_def, Option.some.injEq] at h
    obtain ⟨v, hv, us, hus, rfl⟩ := h
    obtain ⟨us', h1, h2⟩ := ih us hus
    cases r with
    | tmp t =>
      simp only [gResult, Option.some.injEq] at hv
      subst hv
      refine ⟨tmps.getD t undef :: us', ?_, .cons (hget t) h2⟩
      rw [List.mapM_cons]
      simp only [resRun, Sem.run_bind, Sem.run_pure, Result.andThen_ok, h1]
    | cell b t =>
      simp only [gResult] at hv
      obtain ⟨u', h3, h4⟩ := gLoad_VR hv (hget b) hR
      refine ⟨u' :: us', ?_, .cons h4 h2⟩
      rw [List.mapM_cons]
      have h5 : (do loadVar t (← asAddr (tmps.getD b undef)) : Sem Value).run P w = .ok u' w := by
        have hp := hget b
        unfold gLoad at hv
        split at hv
        · next bb oo hb2 =>
          generalize tmps.getD b undef = z at hp h3
          rw [hb2] at hp
          obtain ⟨b', p, o', e, _, rfl⟩ := hp.ptr_inv
          simpa [Instr.loadAt, Instr.sureAddr, asAddr] using h3
        · cases hv
      simp only [resRun, Sem.run_bind] at h5 ⊢
      rw [h5]
      simp only [Sem.run_pure, Result.andThen_ok, h1]

theorem results_run {fn : Func} {a : GA} {m : PM} {H : GH} {w : World} {tmps : Array Value} {v : Value} (hA : VRs m a tmps.toList) (hR : Rel P base m H w) (h : gResults P fn a H = some v) :
    ∃ v', (results fn tmps).run P w = .ok v' w ∧ VR m v v' := by
  unfold gResults at h
  obtain ⟨vs, hvs, rfl⟩ := Option.map_eq_some_iff.1 h
  obtain ⟨vs', h1, h2⟩ := gResult_run hA hR _ _ hvs
  have h3 : (fn.results.mapM (m := Sem) (resRun tmps)).run P w = .ok vs'.toArray w := by
    rw [← Array.toArray_toList (xs := fn.results), List.mapM_toArray]
    simp only [Sem.run_map, h1, Result.andThen_ok]
  rw [results_eq, Sem.run_bind, h3]
  simp only [Result.andThen_ok, Sem.run_pure]
  refine ⟨_, rfl, ?_⟩
  match vs, vs', h2 with
  | [], [], h2 => exact .tuple _ _ rfl (fun i hi => absurd hi (by simp))
  | [x], [y], h2 => exact h2.head
  | x1 :: x2 :: xs, y1 :: y2 :: ys, h2 => exact .tupA (by simpa using h2)
  | [], y :: ys, h2 => exact absurd h2.1 (by simp)
  | [x], [], h2 => exact absurd h2.1 (by simp)
  | [x], y1 :: y2 :: ys, h2 => exact absurd h2.1 (by simp)
  | x1 :: x2 :: xs, [], h2 => exact absurd h2.1 (by simp)
  | x1 :: x2 :: xs, [y], h2 => exact absurd h2.1 (by simp)

theorem func_sound {call : Handle} (hc : HOk P call) (hmix : P.follows .mixedOrders = true) {k : Nat} {f : FuncId} {fn : Func} (hf : P.funcs[f]? = some fn) (hok : funcOk fn = true) {args args' : List Value} {H : GH} {outs : List (Value × GH)}
    (h : gFunc P call k fn args H = some outs) {m : PM} {w : World} (ha : VRs m args args') (hR : Rel P base m H w) (hb : base ≤ w.heap.size) :
    CallsIn Fence.wide n P f args'.toArray w (Ret fun v' w' => ∃ x ∈ outs, ∃ m', VR m' x.1 v' ∧ Rel P base m' x.2 w' ∧ Go1 base m m' H x.2 w w') := by
  unfold gFunc at h
  split at h
  case h_2 => cases h
  next c hbody =>
  have hcok : codeOk c = true := by
    unfold funcOk at hok
    rw [hbody] at hok
    simp only [Bool.and_eq_true] at hok
    exact hok.1
  refine callsIn_of_wp_marks hf hbody trivial ?_
  have hA : VRs m (gEnter fn.ntmps args) (args'.toArray ++ Array.replicate (fn.ntmps - args'.toArray.size) undef).toList := by
    simp only [Array.toList_append, Array.toList_replicate, List.size_toArray, gEnter, ha.1]
    refine ha.append (VRs.of_get? rfl fun i u v hu hv => ?_)
    rw [hu] at hv
    injection hv with e
    subst e
    rw [List.getElem?_replicate] at hu
    split at hu
    · injection hu with hu; subst hu; exact VR.undef
    · cases hu
  refine code_sound (F := Fence.wide) (n := n) (base := base) (.inl rfl) hc hmix k c hcok (K := hFin P fn) (outs := outs) h hA hR hb (fun l hl => by cases hl) fun e a1 H1 m1 w1 act1 o hk hs hat => ?_
  have key : ∀ v, gResults P fn a1 H1 = some v → o = [(v, H1)] → LeavesInM Fence.wide n P fn act1.tmps (Ret fun v' w' => ∃ x ∈ outs, ∃ m', VR m' x.1 v' ∧ Rel P base m' x.2 w' ∧ Go1 base m m' H x.2 w w') act1.defers .returning w1 := by
    intro v hv ho
    obtain ⟨ds, h1, h2, h3⟩ := hat.marks
    rw [h1]
    simp only [List.append_nil]
    refine leave_marks hb ds w1 h3 h2 hat.rel hat.go fun w' hR' hG' => ?_
    obtain ⟨v', hr, hvr⟩ := results_run hat.tmps hR' hv
    exact ⟨v', hr, (v, H1), hs (by rw [ho]; simp), m1, hvr, hR', hG'⟩
  have hk' : ∀ e', hFin P fn e' a1 H1 = some o → (∀ id, e' ≠ .exit id) → ∃ v, gResults P fn a1 H1 = some v ∧ o = [(v, H1)] := by
    intro e' hk hne
    cases e' with
    | exit id => exact absurd rfl (hne id)
    | normal =>
      obtain ⟨v, h1, h2⟩ := onV_ret (H := H1) hk
      exact ⟨v, h1, h2⟩
    | ret =>
      obtain ⟨v, h1, h2⟩ := onV_ret (H := H1) hk
      exact ⟨v, h1, h2⟩
  cases e with
  | exit id => cases hk
  | normal =>
    obtain ⟨v, h1, h2⟩ := hk' .normal hk (fun id h => by cases h)
    exact key v h1 h2
  | ret =>
    obtain ⟨v, h1, h2⟩ := hk' .ret hk (fun id h => by cases h)
    exact key v h1 h2
end
end Go.Gh
/- The ghost machine: rounds; every call. -/
namespace Go.Gh
open Go.RowKit
set_option linter.unusedVariables false
set_option linter.unusedSimpArgs false

section
variable {P : Program} {base : Nat} {F : Fence} {n : Nat}

theorem assign_VRs {m : PM} : ∀ (ps : List Tmp) {args args' : List Value} {t : GA} {t' : Array Value}, VRs m args args' → VRs m t t'.toList →
    VRs m ((ps.zip args).foldl (fun t x => t.set x.1 x.2) t) ((ps.zip args').foldl (fun t x => t.setIfInBounds x.1 x.2) t').toList := by
  intro ps
  induction ps with
  | nil => intro args args' t t' _ h; exact h
  | cons p ps ih =>
    intro args args' t t' ha h
    match args, args', ha with
    | [], [], _ => exact h
    | x :: xs, y :: ys, ha =>
      simp only [List.zip_cons_cons, List.foldl_cons]
      refine ih ha.tail ?_
      rw [Array.toList_setIfInBounds]
      exact h.set p ha.head
    | [], _ :: _, ha => exact absurd ha.1 (by simp)
    | _ :: _, [], ha => exact absurd ha.1 (by simp)

theorem Rel.loopAt {m : PM} {H : GH} {w : World} (hR : Rel P base m H w) {l : Nat} {p : Pin} (hp : m l = some p) {st : LoopState} {pe : Option Code} {tmps : List Value} {ps : List Tmp} {as bd : Code} (hg : H.get l = some (.loop st pe tmps ps as bd)) :
    ∃ r : Loop, w.heap[p.blk]? = some (.loop r) ∧ base ≤ p.blk ∧ r.state = st ∧ r.pending = pe ∧ r.params.toList = ps ∧ r.assign = as ∧ r.body = bd ∧ codeOk as = true ∧ codeOk bd = true ∧ VRs m tmps r.tmps.toList := by
  obtain ⟨o, ob, h1, h2, h3⟩ := hR.obj l p hp
  rw [hg] at h1
  injection h1 with h1
  subst h1
  cases h3 with
  | loop q0 q1 q2 q3 q4 q5 q6 q7 q8 => exact ⟨_, h2, q0, q1, q2, q3, q4, q5, q6, q7, q8⟩

/-- A loop's record turned. -/
theorem Rel.turnLoop {m : PM} {H : GH} {w : World} (hR : Rel P base m H w) {l : Nat} {p : Pin} (hp : m l = some p) {st st2 : LoopState} {pe pe2 : Option Code} {tmps : List Value} {ps : List Tmp} {as bd : Code}
    (hg : H.get l = some (.loop st pe tmps ps as bd)) {r : Loop} (hr : w.heap[p.blk]? = some (.loop r)) :
    (setObj p.blk (.loop { r with state := st2, pending := pe2 })).run P w = .ok () { w with heap := w.heap.setIfInBounds p.blk (.loop { r with state := st2, pending := pe2 }) } ∧
      Rel P base m (H.set l (.loop st2 pe2 tmps ps as bd)) { w with heap := w.heap.setIfInBounds p.blk (.loop { r with state := st2, pending := pe2 }) } ∧
      Go1 base m m H (H.set l (.loop st2 pe2 tmps ps as bd)) w { w with heap := w.heap.setIfInBounds p.blk (.loop { r with state := st2, pending := pe2 }) } := by
  obtain ⟨r', h2, q0, q1, q2, q3, q4, q5, q6, q7, q8⟩ := hR.loopAt hp hg
  rw [hr] at h2
  injection h2 with h2
  injection h2 with h2
  subst h2
  refine ⟨by simp [setObj, Sem.run, hr], hR.turn hp (by rw [hg]; rfl) q0 rfl rfl rfl rfl (.loop q0 rfl rfl q3 q4 q5 q6 q7 q8) (fun _ _ => ⟨_, rfl⟩) (fun ds hd => by rw [hr] at hd; cases hd) (hR.alone hp (by rw [hg]; rfl) q0)⟩

def rGo : GExit → Bool
  | .normal => true
  | _ => false
def rState : GExit → LoopState
  | .normal => .ready
  | _ => .done
def rPend : GExit → Option Code
  | .normal => none
  | .ret => some .ret
  | .exit id => some (.exit id)
theorem hRound_inv {l : Nat} {e : GExit} {a : GA} {H : GH} {o : List (Value × GH)} (h : hRound l e a H = some o) :
    ∃ tmps ps as bd, H.get l = some (.loop .busy none tmps ps as bd) ∧
      o = [(.bool (rGo e), H.set l (.loop (rState e) (rPend e) tmps ps as bd))] := by
  unfold hRound at h
  split at h
  · next tmps ps as bd hg =>
    refine ⟨tmps, ps, as, bd, hg, ?_⟩
    cases e <;> (injection h with h; exact h.symm)
  · cases h

theorem round_sound {call : Handle} (hc : HOk P call) (hmix : P.follows .mixedOrders = true) {k l : Nat} {args args' : List Value} {H : GH} {outs : List (Value × GH)}
    (h : gRound P call k l args H = some outs) {m : PM} {w : World} {p : Pin} (hp : m l = some p) (ha : VRs m args args') (hR : Rel P base m H w) (hb : base ≤ w.heap.size) :
    ∃ f tmps as bd, (Instr.yield p.blk args'.toArray).run P w = .ok (.round p.blk f tmps as bd) w ∧
      RoundIn Fence.wide n P p.blk f tmps as bd w (Ret fun v' w' => ∃ x ∈ outs, ∃ m', VR m' x.1 v' ∧ Rel P base m' x.2 w' ∧ Go1 base m m' H x.2 w w') := by
  unfold gRound at h
  split at h
  case h_2 => cases h
  next tmps params assign body hg =>
  split at h
  case isFalse => cases h
  next hlen =>
  obtain ⟨r, hr, q0, q1, q2, q3, q4, q5, q6, q7, q8⟩ := hR.loopAt hp hg
  have hsz : args'.toArray.size = r.params.size := by
    have : r.params.toList.length = params.length := by rw [q3]
    simp only [Array.length_toList] at this
    simp only [List.size_toArray, ← ha.1]
    omega
  refine ⟨r.fn, (r.params.zip args'.toArray).foldl (fun tmps (t, a) => tmps.setIfInBounds t a) r.tmps, r.assign, r.body, ?_, ?_⟩
  · simp only [Instr.yield, Sem.run_bind, getLoop_run hr, Result.andThen_ok, hsz, ne_eq, not_true, if_false, Sem.run_pure]
  · rw [q4, q5]
    have hA : VRs m (gAssign params args tmps) ((r.params.zip args'.toArray).foldl (fun tmps (t, a) => tmps.setIfInBounds t a) r.tmps).toList := by
      rw [← Array.foldl_toList, Array.toList_zip, q3]
      exact assign_VRs params ha q8
    refine roundIn_of_wpIn (F := Fence.wide) trivial ?_
    have hF : FenceOk (Fence.wide.inRound p.blk) := .inr ⟨_, rfl⟩
    have hro : RoundAt (Fence.wide.inRound p.blk) w := fun l' hl => by
      have : p.blk = l' := by injection hl
      subst this
      exact ⟨r, hr⟩
    refine code_sound (F := Fence.wide.inRound p.blk) (n := n) (base := base) hF hc hmix k assign q6 (K := hBegin P call k l body) (outs := outs) h hA hR hb hro fun e a1 H1 m1 w1 act1 o hk hs hat => ?_
    unfold hBegin at hk
    split at hk
    case h_2 => cases hk
    next tmps1 ps1 as1 bd1 hg1 =>
    have hp1 := hat.go.le _ _ hp
    obtain ⟨r1, hr1, t0, t1, t2, t3, t4, t5, t6, t7, t8⟩ := hat.rel.loopAt hp1 hg1
    obtain ⟨s1, s2, s3⟩ := hat.rel.turnLoop (st2 := .busy) (pe2 := none) hp1 hg1 hr1
    have hrec : ({ r1 with state := .busy } : Loop) = { r1 with state := .busy, pending := none } := by rw [← t2]
    refine ⟨{ w1 with heap := w1.heap.setIfInBounds p.blk (.loop { r1 with state := .busy, pending := none }) }, ?_, ?_⟩
    rotate_left
    · have hro1 : RoundAt (Fence.wide.inRound p.blk) { w1 with heap := w1.heap.setIfInBounds p.blk (.loop { r1 with state := .busy, pending := none }) } := fun l' hl => by
        have : p.blk = l' := by injection hl
        subst this
        exact ⟨_, Array.getElem?_setIfInBounds_self_of_lt (hat.rel.blk_lt hp1)⟩
      refine code_sound (F := Fence.wide.inRound p.blk) (n := n) (base := base) hF hc hmix k body q7 (K := hRound l) (outs := o) hk hat.tmps s2 (Nat.le_trans hb (hat.go.trans s3).keep.size) hro1 fun e a2 H2 m2 w2 act2 o2 hk2 hs2 hat2 => ?_
      obtain ⟨tmps2, ps2, as2, bd2, hg2, rfl⟩ := hRound_inv hk2
      have hp2 := hat2.go.le _ _ hp1
      obtain ⟨r2, hr2, u0, u1, u2, u3, u4, u5, u6, u7, u8⟩ := hat2.rel.loopAt hp2 hg2
      have hG2 := (hat.go.trans s3).trans hat2.go
      have fin : ∀ (v : Value) (st : LoopState) (pe : Option Code), (v, H2.set l (.loop st pe tmps2 ps2 as2 bd2)) ∈ outs → VR m2 v v →
          ∃ x ∈ outs, ∃ m', VR m' x.1 v ∧ Rel P base m' x.2 { w2 with heap := w2.heap.setIfInBounds p.blk (.loop { r2 with state := st, pending := pe }) } ∧ Go1 base m m' H x.2 w { w2 with heap := w2.heap.setIfInBounds p.blk (.loop { r2 with state := st, pending := pe }) } := by
        intro v st pe hm hv
        obtain ⟨v1, v2, v3⟩ := hat2.rel.turnLoop (st2 := st) (pe2 := pe) hp2 hg2 hr2
        exact ⟨_, hm, m2, hv, v2, hG2.trans v3⟩
      have hend : ∀ jump : Option Code, (Instr.endRound p.blk jump).run P w2 = .ok (.bool jump.isNone) { w2 with heap := w2.heap.setIfInBounds p.blk (.loop { r2 with state := if jump.isNone then .ready else .done, pending := jump }) } := by
        intro jump
        obtain ⟨v1, _, _⟩ := hat2.rel.turnLoop (st2 := if jump.isNone then .ready else .done) (pe2 := jump) hp2 hg2 hr2
        simp only [Instr.endRound, Sem.run_bind, getLoop_run hr2, Result.andThen_ok, v1, Sem.run_pure]
      cases e with
      | normal => exact ⟨_, _, hend none, fin (.bool true) .ready none (hs (hs2 (by simp [rGo, rState, rPend]))) (.bool true)⟩
      | ret => exact ⟨_, _, hend (some .ret), fin (.bool false) .done (some .ret) (hs (hs2 (by simp [rGo, rState, rPend]))) (.bool false)⟩
      | exit id => exact ⟨_, _, hend (some (.exit id)), fin (.bool false) .done (some (.exit id)) (hs (hs2 (by simp [rGo, rState, rPend]))) (.bool false)⟩
    · simp only [Instr.beginRound, Sem.run_bind, getLoop_run hr1, Result.andThen_ok, hrec, s1, t1, Sem.run_pure]

theorem gCall_ok (hmix : P.follows .mixedOrders = true) {T : Nat → Option Func} (hT : ∀ f fn, T f = some fn → P.funcs[f]? = some fn ∧ funcOk fn = true) : ∀ k, HOk P (gCall P T k) := by
  intro k
  induction k with
  | zero => intro fv args H outs h; cases h
  | succ k ih =>
    intro fv args H outs h base m w fv' args' hv ha hR hb
    unfold gCall at h
    split at h
    · next f first captured =>
      split at h
      · next fn hfn =>
        obtain ⟨h1, h2⟩ := hT f fn hfn
        cases hv with
        | func _ _ gs _ es q1 q2 q3 q4 =>
        have hname : fn.name ≠ "runtime.NumGoroutine" := by
          unfold funcOk at h2
          simp only [Bool.and_eq_true, bne_iff_ne] at h2
          exact h2.2
        have hbody : fn.body.isSome = true := by
          unfold gFunc at h
          split at h
          · next c hc => rw [hc]; rfl
          · cases h
        refine .inl ⟨f, fn, gs, es, rfl, h1, hbody, hname, fun n => ?_⟩
        have hargs : VRs m (first.toList ++ args ++ captured.toList) (gs.toList ++ args' ++ es.toList) := ((VRs.toArr q1 q2).append ha).append (VRs.toArr q3 q4)
        have := func_sound (n := n) ih hmix h1 h2 h hargs hR hb
        have e : (gs.toList ++ args' ++ es.toList).toArray = gs ++ args'.toArray ++ es := by
          apply Array.ext'
          simp
        rw [e] at this
        exact this
      · cases h
    · next l _ _ =>
      cases hv with
      | yield hp =>
        rename_i p
        obtain ⟨f, tmps, as, bd, h1, _⟩ := round_sound (n := 0) ih hmix h hp ha hR hb
        refine .inr ⟨p.blk, f, tmps, as, bd, rfl, h1, fun n => ?_⟩
        obtain ⟨f', tmps', as', bd', h3, h4⟩ := round_sound (n := n) ih hmix h hp ha hR hb
        rw [h1] at h3
        injection h3 with h3 _
        injection h3 with _ e1 e2 e3 e4
        subst e1; subst e2; subst e3; subst e4
        exact h4
    · cases h
end
end Go.Gh
/- The ghost machine with closed calls: a function that takes nothing and has been evaluated over the empty heap answers at once, whatever the heap. -/
namespace Go.Gh
open Go.RowKit
set_option linter.unusedVariables false
set_option linter.unusedSimpArgs false

def GH.empty : GH := { objs := [], n := 0, lo := 0 }
open Classical in
/-- A call: cl: what the closed functions answer. -/
noncomputable def gCallC (P : Program) (T : Nat → Option Func) (cl : Nat → Option Value) : Nat → Handle
  | 0 => fun _ _ _ => none
  | k + 1 => fun fv args H =>
    match fv with
    | .func (.func f) first captured => match T f with
      | some fn => gFunc P (gCallC P T cl k) k fn (first.toList ++ args ++ captured.toList) H
      | none => match cl f, first.toList ++ args ++ captured.toList with
        | some v, [] => if GlIn H then some [(v, H)] else none
        | _, _ => none
    | .func (.yield l) _ _ => gRound P (gCallC P T cl k) k l args H
    | _ => none

section
variable {P : Program}
def TabOk (P : Program) (T : Nat → Option Func) : Prop := ∀ f fn, T f = some fn → P.funcs[f]? = some fn ∧ funcOk fn = true
/-- The closed answers are right. -/
def ClOk (P : Program) (cl : Nat → Option Value) : Prop := ∀ f v, cl f = some v → closed v = true ∧ ∃ T k outs, TabOk P T ∧ gCall P T k (.func (.func f) #[] #[]) [] GH.start = some outs ∧ ∀ x ∈ outs, x.1 = v ∧ glN ≤ x.2.lo
theorem Rel.empty (base : Nat) (w : World) (h : ∀ g, glSel g = false := by intro g; rfl) : Rel P base (fun _ => none) GH.empty w := ⟨fun b p h => (by cases h), fun b c p q _ h => (by cases h), fun g hs => by rw [h g] at hs; cases hs⟩
theorem start_get {g : Nat} (h : glSel g = true) : GH.start.get g = some (glObj g) := by
  unfold GH.get GH.start
  have hl := gl_lt h
  simp only
  rw [if_pos hl, List.getElem?_reverse (by simp; omega)]
  simp only [List.length_map, List.length_range]
  rw [show glN - 1 - (glN - 1 - g) = g by omega, List.getElem?_map, List.getElem?_range hl]
  simp [h]
/-- The start, again: what the known package variables hold. -/
theorem Rel.again {base : Nat} {m : PM} {H : GH} {w : World} (h : Rel P base m H w) (hg : GlIn H) : Rel P base (fun b => if glSel b then m b else none) GH.start w := by
  have hs : ∀ {b p}, (if glSel b then m b else none) = some p → glSel b = true ∧ m b = some p := fun {b p} hb => by
    split at hb
    · next hs => exact ⟨hs, hb⟩
    · cases hb
  refine ⟨fun b p hb => ?_, fun b c p q _ hb _ ab _ => ?_, fun g hg' => ?_⟩
  · obtain ⟨h1, h2⟩ := hs hb
    obtain ⟨o, r, q1, q2, q3⟩ := h.obj b p h2
    rw [hg b h1] at q1
    injection q1 with q1
    subst q1
    refine ⟨_, r, start_get h1, q2, ?_⟩
    unfold glObj at q3 ⊢
    cases q3 with
    | row hro hold hrw hc =>
      refine .row hro hold hrw fun i u hu => ?_
      obtain ⟨u', e1, e2⟩ := hc i u hu
      obtain ⟨k, n, rfl⟩ := gl_ints h1 u (List.mem_of_getElem? hu)
      cases e2
      exact ⟨_, e1, .int k n⟩
  · rw [start_get (hs hb).1] at ab
    cases ab
  · obtain ⟨p, h1, h2⟩ := h.glob g hg'
    exact ⟨p, by rw [if_pos hg']; exact h1, h2⟩
/-- Where a program starts whose known package variables lie as they should. -/
theorem Rel.first {base : Nat} {w : World} (h : ∀ g, glSel g = true → g < base ∧ ∃ arr t fr, w.heap[g]? = some (.cells arr t fr) ∧ ∀ (i : Nat) (u : Value), (glRow g)[i]? = some u → arr[i]? = some u) :
    Rel P base (fun b => if glSel b then some ⟨b, 0, 0, 0, false⟩ else none) GH.start w := by
  have hs : ∀ {b p}, (if glSel b then some (⟨b, 0, 0, 0, false⟩ : Pin) else none) = some p → glSel b = true ∧ p = ⟨b, 0, 0, 0, false⟩ := fun {b p} hb => by
    split at hb
    · next hs => injection hb with hb; exact ⟨hs, hb.symm⟩
    · cases hb
  refine ⟨fun b p hb => ?_, fun b c p q _ hb _ ab _ => ?_, fun g hg' => ⟨_, by rw [if_pos hg'], rfl, rfl⟩⟩
  · obtain ⟨h1, rfl⟩ := hs hb
    obtain ⟨hb, arr, t, fr, e1, e2⟩ := h b h1
    refine ⟨_, _, start_get h1, e1, .row rfl (fun _ => hb) (fun h => by cases h) fun i u hu => ⟨u, by rw [Nat.zero_add]; exact e2 i u hu, ?_⟩⟩
    obtain ⟨k, n, rfl⟩ := gl_ints h1 u (List.mem_of_getElem? hu)
    exact .int k n
  · rw [start_get (hs hb).1] at ab
    cases ab
theorem gCallC_ok (hmix : P.follows .mixedOrders = true) {T : Nat → Option Func} (hT : TabOk P T) {cl : Nat → Option Value} (hcl : ClOk P cl) : ∀ k, HOk P (gCallC P T cl k) := by
  intro k
  induction k with
  | zero => intro fv args H outs h; cases h
  | succ k ih =>
    intro fv args H outs h base m w fv' args' hv ha hR hb
    unfold gCallC at h
    split at h
    · next f first captured =>
      split at h
      · next fn hfn =>
        obtain ⟨h1, h2⟩ := hT f fn hfn
        cases hv with
        | func _ _ gs _ es q1 q2 q3 q4 =>
        have hname : fn.name ≠ "runtime.NumGoroutine" := by
          unfold funcOk at h2
          simp only [Bool.and_eq_true, bne_iff_ne] at h2
          exact h2.2
        have hbody : fn.body.isSome = true := by
          unfold gFunc at h
          split at h
          · next c hc => rw [hc]; rfl
          · cases h
        refine .inl ⟨f, fn, gs, es, rfl, h1, hbody, hname, fun n => ?_⟩
        have hargs : VRs m (first.toList ++ args ++ captured.toList) (gs.toList ++ args' ++ es.toList) := ((VRs.toArr q1 q2).append ha).append (VRs.toArr q3 q4)
        have := func_sound (n := n) ih hmix h1 h2 h hargs hR hb
        have e : (gs.toList ++ args' ++ es.toList).toArray = gs ++ args'.toArray ++ es := by
          apply Array.ext'
          simp
        rw [e] at this
        exact this
      · split at h
        · next v hclf hnil =>
          split at h
          case isFalse => cases h
          next hgl =>
          injection h with h
          subst h
          obtain ⟨hc, T', k', outs', hT', he, hall⟩ := hcl f v hclf
          simp only [List.append_eq_nil_iff] at hnil
          obtain ⟨⟨n1, n2⟩, n3⟩ := hnil
          subst n2
          have f0 : first = #[] := by simpa using n1
          have c0 : captured = #[] := by simpa using n3
          subst f0
          subst c0
          have ha' : args' = [] := by
            have := ha.1
            exact List.length_eq_zero_iff.1 (by simpa using this.symm)
          subst ha'
          have hfv : fv' = .func (.func f) #[] #[] := by
            cases hv with
            | func _ _ gs _ es q1 q2 q3 q4 =>
              have g0 : gs = #[] := by simpa using q1.symm
              have e0 : es = #[] := by simpa using q3.symm
              rw [g0, e0]
          subst hfv
          have h1 := gCall_ok hmix hT' k' _ _ _ _ he base (fun b => if glSel b then m b else none) w (.func (.func f) #[] #[]) []
            (.func f #[] #[] #[] #[] rfl (fun i hi => absurd hi (by simp)) rfl (fun i hi => absurd hi (by simp))) .nil (hR.again hgl) hb
          refine h1.mono fun v' w' ⟨x, hx, m', g1, g2, g3⟩ => ?_
          rw [(hall x hx).1] at g1
          have ev := g1.closed_eq hc
          subst ev
          have hsame : ∀ B, B < w.heap.size → w'.heap[B]? = w.heap[B]? := fun B hB => g3.frame B hB fun b p hb _ => by
            have hsb : glSel b = true := by
              cases hh : glSel b with
              | true => rfl
              | false => rw [hh] at hb; cases hb
            exact Nat.lt_of_lt_of_le (gl_lt hsb) (hall x hx).2
          refine ⟨_, List.mem_singleton.2 rfl, m, closed_VR hc, ⟨fun b p hb => ?_, hR.inj, hR.glob⟩, ⟨.refl m, fun b p h h' => (by rw [h] at h'; cases h'), fun b p h h' => (by rw [h] at h'; cases h'), fun B hB _ => hsame B hB, g3.below, g3.keep, Nat.le_refl _, Nat.le_refl _, fun _ _ _ => rfl⟩⟩
          obtain ⟨o, r, q1, q2, q3⟩ := hR.obj b p hb
          exact ⟨o, r, q1, (hsame _ (Array.getElem?_eq_some_iff.1 q2).1).trans q2, q3⟩
        · cases h
    · next l _ _ =>
      cases hv with
      | yield hp =>
        rename_i p
        obtain ⟨f, tmps, as, bd, h1, _⟩ := round_sound (n := 0) ih hmix h hp ha hR hb
        refine .inr ⟨p.blk, f, tmps, as, bd, rfl, h1, fun n => ?_⟩
        obtain ⟨f', tmps', as', bd', h3, h4⟩ := round_sound (n := n) ih hmix h hp ha hR hb
        rw [h1] at h3
        injection h3 with h3 _
        injection h3 with _ e1 e2 e3 e4
        subst e1; subst e2; subst e3; subst e4
        exact h4
    · cases h
/-- An evaluation all of whose outcomes are true: the call returns true, and nothing that was there has been turned. -/
theorem top_callsC (hmix : P.follows .mixedOrders = true) {T : Nat → Option Func} (hT : TabOk P T) {cl : Nat → Option Value} (hcl : ClOk P cl) {k : Nat} {f : FuncId} {args : List Value} {H : GH} {outs : List (Value × GH)}
    (h : gCallC P T cl k (.func (.func f) #[] #[]) args H = some outs) (hall : ∀ x ∈ outs, x.1 = .bool true) {m : PM} {W : World} {args' : Array Value} (ha : VRs m args args'.toList) (hR : Rel P W.heap.size m H W) :
    Calls P f args' W fun e w' => e = .returned (.bool true) ∧ Below W.heap.size W w' := by
  have h1 := gCallC_ok hmix hT hcl k _ _ _ _ h W.heap.size m W (.func (.func f) #[] #[]) args'.toList
    (.func f #[] #[] #[] #[] rfl (fun i hi => absurd hi (by simp)) rfl (fun i hi => absurd hi (by simp))) ha hR (Nat.le_refl _)
  rcases h1 with ⟨f', fn, fs, cs, e, h2, h3, h4, h5⟩ | ⟨L, f', tmps, as, bd, e, _⟩
  · injection e with e1 e2 e3
    injection e1 with e1
    subst e1; subst e2; subst e3
    have h6 := callsIn_wide.1 (h5 0)
    have e : (#[] ++ args'.toList.toArray ++ #[] : Array Value) = args' := by simp
    rw [e] at h6
    refine h6.mono fun e w' he => ?_
    cases e with
    | returned v =>
      obtain ⟨x, hx, m', hv, _, hG⟩ := he
      rw [hall x hx] at hv
      cases hv
      exact ⟨rfl, hG.below⟩
    | panicked _ => exact he.elim
    | outgrown => exact he.elim
  · cases e
end
end Go.Gh
