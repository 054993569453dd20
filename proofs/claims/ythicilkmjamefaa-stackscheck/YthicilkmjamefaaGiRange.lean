/- The ghost machine: a range over a function. -/
import Derived.Test.YthicilkmjamefaaGiCode
namespace Go.Gh
open Go.RowKit
set_option linter.unusedVariables false
set_option linter.unusedSimpArgs false

section
variable {P : Program} {base : Nat} {F : Fence} {n : Nat}

theorem Keep.alloc (w : World) (o : Obj) : Keep w (w.alloc o) :=
  ⟨by simp, fun L q hL => ⟨q, (Below.heap_alloc w o L (Array.getElem?_eq_some_iff.1 hL).1).trans hL⟩, fun D ds hD => (Below.heap_alloc w o D (Array.getElem?_eq_some_iff.1 hD).1).trans hD⟩
theorem Grown.alloc {w : World} (hb : base ≤ w.heap.size) (o : Obj) : Grown base w (w.alloc o) :=
  ⟨fun B hB => Below.heap_alloc w o B hB, (Below.refl base w).alloc hb o, Keep.alloc w o⟩
theorem Grown.refl (w : World) : Grown base w w := ⟨fun _ _ => rfl, .refl _ _, .refl _⟩

theorem getLoop_run {w : World} {l : Nat} {r : Loop} (h : w.heap[l]? = some (.loop r)) : (Instr.getLoop l).run P w = .ok r w := by
  simp [Instr.getLoop, run_getObj (P := P) h (by intro _ _ _ h; cases h)]

theorem enterLoop_run {w : World} (hb : base ≤ w.heap.size) {fn : FuncId} {tmps : Array Value} {ps : Array Tmp} {as bd : Code} (hro : RoundAt F w) :
    ∃ (wa : World) (D : Nat) (ds : List Nat), (Instr.enterLoop fn tmps ps as bd F.round).run P w = .ok (wa.heap.size, ds.map markOf) (wa.alloc (.loop { state := .ready, pending := none, fn, tmps, params := ps, assign := as, body := bd, defers := D })) ∧
      Grown base w wa ∧ ds.Nodup ∧ ∀ D' ∈ ds, w.heap.size ≤ D' ∧ wa.heap[D']? = some (.deferred (some [])) := by
  cases hr : F.round with
  | none =>
    refine ⟨w.alloc (.deferred (some [])), w.heap.size, [w.heap.size], ?_, .alloc hb _, by simp, fun D' hD => ?_⟩
    · simp [Instr.enterLoop, run_newObj, markOf]
    · rw [List.mem_singleton] at hD
      subst hD
      exact ⟨Nat.le_refl _, heap_alloc_at _ _⟩
  | some l =>
    obtain ⟨r, hl⟩ := hro l hr
    refine ⟨w, r.defers, [], ?_, .refl _, List.nodup_nil, fun _ h => by cases h⟩
    simp [Instr.enterLoop, run_newObj, getLoop_run hl]

theorem range_sound (hF : FenceOk F) {call : Handle} (hc : HOk P call) {g : Operand} {ps : Array Tmp} {as bd : Code} (hg : opndOk g = true) (h1 : codeOk as = true) (h2 : codeOk bd = true) (k : Nat) :
    CodeOk F n P base (.rangeFunc g ps as bd) (fun {β} a H K => gCode P call k (.rangeFunc g ps as bd) a H K) := by
  intro β K outs a H m w act Q h hA hR hb hro hK
  have h : gCode P call k (.rangeFunc g ps as bd) a H K = some outs := h
  unfold gCode at h
  split at h
  case h_2 => cases h
  next f fs cs hgv =>
  obtain ⟨l, hl, hout⟩ := bindM_some h
  refine wpIn_rangeFunc fun fn _ => ?_
  obtain ⟨wa, D, ds, hent, hgr, hnd, hds⟩ := enterLoop_run (P := P) (F := F) (fn := fn) (tmps := act.tmps) (ps := ps) (as := as) (bd := bd) hb hro
  have hRa := hR.grown hgr
  have hGa : Go1 base m m H H w wa := (Go1.refl base m H w).grown hgr (.refl m) fun b p h h' => by rw [h] at h'; cases h'
  have hba : base ≤ wa.heap.size := Nat.le_trans hb hgr.keep.size
  let rec0 : Loop := { state := .ready, pending := none, fn, tmps := act.tmps, params := ps, assign := as, body := bd, defers := D }
  let p : Pin := ⟨wa.heap.size, 0, 0, 0, false⟩
  obtain ⟨hR1, hG1⟩ := hRa.new hba (.loop .ready none a ps.toList as bd) (.loop rec0) p rfl (.loop hba rfl rfl rfl rfl rfl h1 h2 (hA.mono (hRa.put_le p)))
  have hG01 := hGa.trans hG1
  have hpin : (m.put H.n p) H.n = some p := PM.put_same m H.n p
  have hgV := eval_VR hA hg
  rw [hgv] at hgV
  have hb1 : base ≤ (wa.alloc (.loop rec0)).heap.size := Nat.le_trans hba (Keep.alloc _ _).size
  have hent2 := hc _ _ _ _ hl base _ _ (act.eval g) [.func (.yield wa.heap.size) #[] #[]] (hgV.mono (hRa.put_le p)) (.cons (.yield hpin) .nil) hR1 hb1
  generalize hev : act.eval g = gv at hgV hent2
  cases hgV with
  | func _ _ gs _ es q1 q2 q3 q4 =>
  rcases hent2 with ⟨f', fn', fs', cs', e, hfn, hbd, hnm, hcalls⟩ | ⟨L, f', tmps, as', bd', e, _⟩
  case inr => cases e
  injection e with e1 e2 e3
  injection e1 with e1
  subst e1; subst e2; subst e3
  have hbd' : fn'.body.isNone = false := by
    cases hb' : fn'.body with
    | none => rw [hb'] at hbd; cases hbd
    | some _ => rfl
  have hnm' : (fn'.name == "runtime.NumGoroutine") = false := by simpa using hnm
  refine ⟨wa.heap.size, ds.map markOf, wa.alloc (.loop rec0), { target := .fn (.func f) es, args := gs ++ #[.func (.yield wa.heap.size) #[] #[]] }, wa.alloc (.loop rec0), f, gs ++ #[.func (.yield wa.heap.size) #[] #[]] ++ es, wa.alloc (.loop rec0), hent, ?_, fun f' _ => hF.fn f', ?_, (fun h => by rw [hF.depth] at h; cases h), hF.calls ?_⟩
  · have : Act.eval act (.const (.func (.yield wa.heap.size) #[] #[])) = .func (.yield wa.heap.size) #[] #[] := rfl
    simp [resolve, rangeCall, hev, Deferred.ofValue, this]
  · simp only [invoke, callFunc, Sem.run_bind, run_program, Result.andThen_ok, hfn, hnm', hbd', if_false, Bool.false_eq_true, Sem.run_pure]
  · have hcl := hcalls (n - 1)
    refine CallsIn.mono hcl ?_
    intro e w3 he
    cases e with
    | panicked _ => exact he.elim
    | outgrown => exact he.elim
    | returned v =>
      obtain ⟨x, hx, m3, _, hR3, hG3⟩ := he
      obtain ⟨o, ho, hs⟩ := hout x hx
      have hp3 := hG3.le _ _ hpin
      obtain ⟨go, ro, hgo, hro3, hobj⟩ := hR3.obj _ _ hp3
      -- the record at the end
      have hA3 : VRs m3 a act.tmps.toList := hA.mono (hG01.le.trans hG3.le)
      have key : ∀ (st : LoopState) (pe : Option Code) (tmps : List Value) (ps' : List Tmp) (as' bd' : Code), x.2.get H.n = some (.loop st pe tmps ps' as' bd') → st ≠ .busy →
          ∃ w4, (Instr.endLoop wa.heap.size).run P w3 = .ok pe w4 ∧ At P base m H w act a m3 (x.2.set H.n (.loop .exhausted pe tmps ps' as' bd')) w4 { act with defers := ds.map markOf ++ act.defers } := by
        intro st pe tmps ps' as' bd' hget hst
        rw [hgo] at hget
        injection hget with hget
        subst hget
        cases hobj with
        | loop q0 q1 q2 q3 q4 q5 q6 q7 q8 =>
          rename_i r
          subst q1; subst q2
          have hro3' : w3.heap[wa.heap.size]? = some (.loop r) := hro3
          have hrun : (Instr.endLoop wa.heap.size).run P w3 = .ok r.pending { w3 with heap := w3.heap.setIfInBounds wa.heap.size (.loop { r with state := .exhausted }) } := by
            have hne : (r.state == .busy) = false := by
              cases hs : r.state <;> first | rfl | (rw [hs] at hst; exact absurd rfl hst)
            simp only [Instr.endLoop, Sem.run_bind, getLoop_run (P := P) hro3', Result.andThen_ok, hne, if_false, Bool.false_eq_true]
            simp [setObj, Sem.run, hro3']
          obtain ⟨hR4, hG4⟩ := hR3.turn (o := .loop .exhausted r.pending tmps ps' as' bd') (r := .loop { r with state := .exhausted }) (w' := { w3 with heap := w3.heap.setIfInBounds wa.heap.size (.loop { r with state := .exhausted }) })
            hp3 (by rw [hgo]; rfl) q0 rfl rfl rfl rfl (.loop q0 rfl rfl q3 q4 q5 q6 q7 q8) (fun _ _ => ⟨_, rfl⟩) (fun ds hd => by rw [hro3] at hd; cases hd) (hR3.alone hp3 (by rw [hgo]; rfl) q0)
          refine ⟨_, hrun, hA3, hR4, (hG01.trans hG3).trans hG4, ds, rfl, hnd, fun D' hD' => ⟨(hds D' hD').1, ?_⟩⟩
          exact ((hG1.trans hG3).trans hG4).keep.defs D' _ (hds D' hD').2
      unfold gEndRange at ho
      split at ho
      · cases ho
      · next st tmps ps' as' bd' hget hnb =>
        obtain ⟨w4, hrun, hat⟩ := key _ _ _ _ _ _ hnb (fun h => hget h)
        exact ⟨none, w4, hrun, hK .normal _ _ _ _ _ _ ho hs hat⟩
      · next st tmps ps' as' bd' hget hnb =>
        obtain ⟨w4, hrun, hat⟩ := key _ _ _ _ _ _ hnb (fun h => hget h)
        exact ⟨some .ret, w4, hrun, wpIn_ret (hK .ret _ _ _ _ _ _ ho hs hat)⟩
      · next st id tmps ps' as' bd' hget hnb =>
        obtain ⟨w4, hrun, hat⟩ := key _ _ _ _ _ _ hnb (fun h => hget h)
        exact ⟨some (.exit id), w4, hrun, wpIn_exit (hK (.exit id) _ _ _ _ _ _ ho hs hat)⟩
      · cases ho
end
end Go.Gh
