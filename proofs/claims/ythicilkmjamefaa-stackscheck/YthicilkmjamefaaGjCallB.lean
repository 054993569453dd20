/- The ghost machine: rounds; every call. -/
import Derived.Test.YthicilkmjamefaaGjCall
namespace Go.Gh
open Go.RowKit
set_option linter.unusedVariables false
set_option linter.unusedSimpArgs false

section
variable {P : Program} {base : Nat} {F : Fence} {n : Nat}

theorem assign_VRs {m : PM} : ∀ (ps : List Tmp) {args args' : List Value} {t : GA} {t' : Array Value}, VRs m args args' → VRs m t t'.toList →
    VRs m ((ps.zip args).foldl (fun t x => t.set x.1 x.2) t) ((ps.zip args').foldl (fun t x => t.setIfInBounds x.1 x.2) t').toList := by
  intro ps
  induction ps with
  | nil => intro args args' t t' _ h; exact h
  | cons p ps ih =>
    intro args args' t t' ha h
    match args, args', ha with
    | [], [], _ => exact h
    | x :: xs, y :: ys, ha =>
      simp only [List.zip_cons_cons, List.foldl_cons]
      refine ih ha.tail ?_
      rw [Array.toList_setIfInBounds]
      exact h.set p ha.head
    | [], _ :: _, ha => exact absurd ha.1 (by simp)
    | _ :: _, [], ha => exact absurd ha.1 (by simp)

theorem Rel.loopAt {m : PM} {H : GH} {w : World} (hR : Rel P base m H w) {l : Nat} {p : Pin} (hp : m l = some p) {st : LoopState} {pe : Option Code} {tmps : List Value} {ps : List Tmp} {as bd : Code} (hg : H.get l = some (.loop st pe tmps ps as bd)) :
    ∃ r : Loop, w.heap[p.blk]? = some (.loop r) ∧ base ≤ p.blk ∧ r.state = st ∧ r.pending = pe ∧ r.params.toList = ps ∧ r.assign = as ∧ r.body = bd ∧ codeOk as = true ∧ codeOk bd = true ∧ VRs m tmps r.tmps.toList := by
  obtain ⟨o, ob, h1, h2, h3⟩ := hR.obj l p hp
  rw [hg] at h1
  injection h1 with h1
  subst h1
  cases h3 with
  | loop q0 q1 q2 q3 q4 q5 q6 q7 q8 => exact ⟨_, h2, q0, q1, q2, q3, q4, q5, q6, q7, q8⟩

/-- A loop's record turned. -/
theorem Rel.turnLoop {m : PM} {H : GH} {w : World} (hR : Rel P base m H w) {l : Nat} {p : Pin} (hp : m l = some p) {st st2 : LoopState} {pe pe2 : Option Code} {tmps : List Value} {ps : List Tmp} {as bd : Code}
    (hg : H.get l = some (.loop st pe tmps ps as bd)) {r : Loop} (hr : w.heap[p.blk]? = some (.loop r)) :
    (setObj p.blk (.loop { r with state := st2, pending := pe2 })).run P w = .ok () { w with heap := w.heap.setIfInBounds p.blk (.loop { r with state := st2, pending := pe2 }) } ∧
      Rel P base m (H.set l (.loop st2 pe2 tmps ps as bd)) { w with heap := w.heap.setIfInBounds p.blk (.loop { r with state := st2, pending := pe2 }) } ∧
      Go1 base m m H (H.set l (.loop st2 pe2 tmps ps as bd)) w { w with heap := w.heap.setIfInBounds p.blk (.loop { r with state := st2, pending := pe2 }) } := by
  obtain ⟨r', h2, q0, q1, q2, q3, q4, q5, q6, q7, q8⟩ := hR.loopAt hp hg
  rw [hr] at h2
  injection h2 with h2
  injection h2 with h2
  subst h2
  refine ⟨by simp [setObj, Sem.run, hr], hR.turn hp (by rw [hg]; rfl) q0 rfl rfl rfl rfl (.loop q0 rfl rfl q3 q4 q5 q6 q7 q8) (fun _ _ => ⟨_, rfl⟩) (fun ds hd => by rw [hr] at hd; cases hd) (hR.alone hp (by rw [hg]; rfl) q0)⟩

def rGo : GExit → Bool
  | .normal => true
  | _ => false
def rState : GExit → LoopState
  | .normal => .ready
  | _ => .done
def rPend : GExit → Option Code
  | .normal => none
  | .ret => some .ret
  | .exit id => some (.exit id)
theorem hRound_inv {l : Nat} {e : GExit} {a : GA} {H : GH} {o : List (Value × GH)} (h : hRound l e a H = some o) :
    ∃ tmps ps as bd, H.get l = some (.loop .busy none tmps ps as bd) ∧
      o = [(.bool (rGo e), H.set l (.loop (rState e) (rPend e) tmps ps as bd))] := by
  unfold hRound at h
  split at h
  · next tmps ps as bd hg =>
    refine ⟨tmps, ps, as, bd, hg, ?_⟩
    cases e <;> (injection h with h; exact h.symm)
  · cases h

theorem round_sound {call : Handle} (hc : HOk P call) (hmix : P.follows .mixedOrders = true) {k l : Nat} {args args' : List Value} {H : GH} {outs : List (Value × GH)}
    (h : gRound P call k l args H = some outs) {m : PM} {w : World} {p : Pin} (hp : m l = some p) (ha : VRs m args args') (hR : Rel P base m H w) (hb : base ≤ w.heap.size) :
    ∃ f tmps as bd, (Instr.yield p.blk args'.toArray).run P w = .ok (.round p.blk f tmps as bd) w ∧
      RoundIn Fence.wide n P p.blk f tmps as bd w (Ret fun v' w' => ∃ x ∈ outs, ∃ m', VR m' x.1 v' ∧ Rel P base m' x.2 w' ∧ Go1 base m m' H x.2 w w') := by
  unfold gRound at h
  split at h
  case h_2 => cases h
  next tmps params assign body hg =>
  split at h
  case isFalse => cases h
  next hlen =>
  obtain ⟨r, hr, q0, q1, q2, q3, q4, q5, q6, q7, q8⟩ := hR.loopAt hp hg
  have hsz : args'.toArray.size = r.params.size := by
    have : r.params.toList.length = params.length := by rw [q3]
    simp only [Array.length_toList] at this
    simp only [List.size_toArray, ← ha.1]
    omega
  refine ⟨r.fn, (r.params.zip args'.toArray).foldl (fun tmps (t, a) => tmps.setIfInBounds t a) r.tmps, r.assign, r.body, ?_, ?_⟩
  · simp only [Instr.yield, Sem.run_bind, getLoop_run hr, Result.andThen_ok, hsz, ne_eq, not_true, if_false, Sem.run_pure]
  · rw [q4, q5]
    have hA : VRs m (gAssign params args tmps) ((r.params.zip args'.toArray).foldl (fun tmps (t, a) => tmps.setIfInBounds t a) r.tmps).toList := by
      rw [← Array.foldl_toList, Array.toList_zip, q3]
      exact assign_VRs params ha q8
    refine roundIn_of_wpIn (F := Fence.wide) trivial ?_
    have hF : FenceOk (Fence.wide.inRound p.blk) := .inr ⟨_, rfl⟩
    have hro : RoundAt (Fence.wide.inRound p.blk) w := fun l' hl => by
      have : p.blk = l' := by injection hl
      subst this
      exact ⟨r, hr⟩
    refine code_sound (F := Fence.wide.inRound p.blk) (n := n) (base := base) hF hc hmix k assign q6 (K := hBegin P call k l body) (outs := outs) h hA hR hb hro fun e a1 H1 m1 w1 act1 o hk hs hat => ?_
    unfold hBegin at hk
    split at hk
    case h_2 => cases hk
    next tmps1 ps1 as1 bd1 hg1 =>
    have hp1 := hat.go.le _ _ hp
    obtain ⟨r1, hr1, t0, t1, t2, t3, t4, t5, t6, t7, t8⟩ := hat.rel.loopAt hp1 hg1
    obtain ⟨s1, s2, s3⟩ := hat.rel.turnLoop (st2 := .busy) (pe2 := none) hp1 hg1 hr1
    have hrec : ({ r1 with state := .busy } : Loop) = { r1 with state := .busy, pending := none } := by rw [← t2]
    refine ⟨{ w1 with heap := w1.heap.setIfInBounds p.blk (.loop { r1 with state := .busy, pending := none }) }, ?_, ?_⟩
    rotate_left
    · have hro1 : RoundAt (Fence.wide.inRound p.blk) { w1 with heap := w1.heap.setIfInBounds p.blk (.loop { r1 with state := .busy, pending := none }) } := fun l' hl => by
        have : p.blk = l' := by injection hl
        subst this
        exact ⟨_, Array.getElem?_setIfInBounds_self_of_lt (hat.rel.blk_lt hp1)⟩
      refine code_sound (F := Fence.wide.inRound p.blk) (n := n) (base := base) hF hc hmix k body q7 (K := hRound l) (outs := o) hk hat.tmps s2 (Nat.le_trans hb (hat.go.trans s3).keep.size) hro1 fun e a2 H2 m2 w2 act2 o2 hk2 hs2 hat2 => ?_
      obtain ⟨tmps2, ps2, as2, bd2, hg2, rfl⟩ := hRound_inv hk2
      have hp2 := hat2.go.le _ _ hp1
      obtain ⟨r2, hr2, u0, u1, u2, u3, u4, u5, u6, u7, u8⟩ := hat2.rel.loopAt hp2 hg2
      have hG2 := (hat.go.trans s3).trans hat2.go
      have fin : ∀ (v : Value) (st : LoopState) (pe : Option Code), (v, H2.set l (.loop st pe tmps2 ps2 as2 bd2)) ∈ outs → VR m2 v v →
          ∃ x ∈ outs, ∃ m', VR m' x.1 v ∧ Rel P base m' x.2 { w2 with heap := w2.heap.setIfInBounds p.blk (.loop { r2 with state := st, pending := pe }) } ∧ Go1 base m m' H x.2 w { w2 with heap := w2.heap.setIfInBounds p.blk (.loop { r2 with state := st, pending := pe }) } := by
        intro v st pe hm hv
        obtain ⟨v1, v2, v3⟩ := hat2.rel.turnLoop (st2 := st) (pe2 := pe) hp2 hg2 hr2
        exact ⟨_, hm, m2, hv, v2, hG2.trans v3⟩
      have hend : ∀ jump : Option Code, (Instr.endRound p.blk jump).run P w2 = .ok (.bool jump.isNone) { w2 with heap := w2.heap.setIfInBounds p.blk (.loop { r2 with state := if jump.isNone then .ready else .done, pending := jump }) } := by
        intro jump
        obtain ⟨v1, _, _⟩ := hat2.rel.turnLoop (st2 := if jump.isNone then .ready else .done) (pe2 := jump) hp2 hg2 hr2
        simp only [Instr.endRound, Sem.run_bind, getLoop_run hr2, Result.andThen_ok, v1, Sem.run_pure]
      cases e with
      | normal => exact ⟨_, _, hend none, fin (.bool true) .ready none (hs (hs2 (by simp [rGo, rState, rPend]))) (.bool true)⟩
      | ret => exact ⟨_, _, hend (some .ret), fin (.bool false) .done (some .ret) (hs (hs2 (by simp [rGo, rState, rPend]))) (.bool false)⟩
      | exit id => exact ⟨_, _, hend (some (.exit id)), fin (.bool false) .done (some (.exit id)) (hs (hs2 (by simp [rGo, rState, rPend]))) (.bool false)⟩
    · simp only [Instr.beginRound, Sem.run_bind, getLoop_run hr1, Result.andThen_ok, hrec, s1, t1, Sem.run_pure]

theorem gCall_ok (hmix : P.follows .mixedOrders = true) {T : Nat → Option Func} (hT : ∀ f fn, T f = some fn → P.funcs[f]? = some fn ∧ funcOk fn = true) : ∀ k, HOk P (gCall P T k) := by
  intro k
  induction k with
  | zero => intro fv args H outs h; cases h
  | succ k ih =>
    intro fv args H outs h base m w fv' args' hv ha hR hb
    unfold gCall at h
    split at h
    · next f first captured =>
      split at h
      · next fn hfn =>
        obtain ⟨h1, h2⟩ := hT f fn hfn
        cases hv with
        | func _ _ gs _ es q1 q2 q3 q4 =>
        have hname : fn.name ≠ "runtime.NumGoroutine" := by
          unfold funcOk at h2
          simp only [Bool.and_eq_true, bne_iff_ne] at h2
          exact h2.2
        have hbody : fn.body.isSome = true := by
          unfold gFunc at h
          split at h
          · next c hc => rw [hc]; rfl
          · cases h
        refine .inl ⟨f, fn, gs, es, rfl, h1, hbody, hname, fun n => ?_⟩
        have hargs : VRs m (first.toList ++ args ++ captured.toList) (gs.toList ++ args' ++ es.toList) := ((VRs.toArr q1 q2).append ha).append (VRs.toArr q3 q4)
        have := func_sound (n := n) ih hmix h1 h2 h hargs hR hb
        have e : (gs.toList ++ args' ++ es.toList).toArray = gs ++ args'.toArray ++ es := by
          apply Array.ext'
          simp
        rw [e] at this
        exact this
      · cases h
    · next l _ _ =>
      cases hv with
      | yield hp =>
        rename_i p
        obtain ⟨f, tmps, as, bd, h1, _⟩ := round_sound (n := 0) ih hmix h hp ha hR hb
        refine .inr ⟨p.blk, f, tmps, as, bd, rfl, h1, fun n => ?_⟩
        obtain ⟨f', tmps', as', bd', h3, h4⟩ := round_sound (n := n) ih hmix h hp ha hR hb
        rw [h1] at h3
        injection h3 with h3 _
        injection h3 with _ e1 e2 e3 e4
        subst e1; subst e2; subst e3; subst e4
        exact h4
    · cases h
end
end Go.Gh
