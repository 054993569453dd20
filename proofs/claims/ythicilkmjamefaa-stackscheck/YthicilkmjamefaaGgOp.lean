/- The ghost machine: one operation, walked. -/
import Derived.Test.YthicilkmjamefaaGfStepC
namespace Go.Gh
open Go.RowKit
set_option linter.unusedVariables false
set_option linter.unusedSimpArgs false

/-- The fences within which it is walked: none; a round's. -/
def FenceOk (F : Fence) : Prop := F = Fence.wide ∨ ∃ l, F = Fence.wide.inRound l
theorem FenceOk.fn {F : Fence} (h : FenceOk F) (f : FuncId) : F.fn f := by
  rcases h with rfl | ⟨l, rfl⟩ <;> trivial
theorem FenceOk.depth {F : Fence} (h : FenceOk F) : F.depth = none := by
  rcases h with rfl | ⟨l, rfl⟩ <;> rfl
theorem FenceOk.calls {F : Fence} (h : FenceOk F) {n : Nat} {P : Program} {f : FuncId} {args : Array Value} {w : World} {R : Ending → World → Prop} (k : CallsIn Fence.wide n P f args w R) : CallsIn F n P f args w R := by
  rcases h with rfl | ⟨l, rfl⟩ <;> exact k
theorem FenceOk.rounds {F : Fence} (h : FenceOk F) {n : Nat} {P : Program} {l : Nat} {f : FuncId} {tmps : Array Value} {as bd : Code} {w : World} {R : Ending → World → Prop} (k : RoundIn Fence.wide n P l f tmps as bd w R) : RoundIn F n P l f tmps as bd w R := by
  rcases h with rfl | ⟨l, rfl⟩ <;> exact k

/-- It returns, and so. -/
def Ret (R : Value → World → Prop) : Ending → World → Prop
  | .returned v, w => R v w
  | _, _ => False

/-- What a call of a function value does. -/
def Enters (P : Program) (fv : Value) (args : List Value) (w : World) (R : Value → World → Prop) : Prop :=
  (∃ f fn fs cs, fv = .func (.func f) fs cs ∧ P.funcs[f]? = some fn ∧ fn.body.isSome = true ∧ fn.name ≠ "runtime.NumGoroutine" ∧ ∀ n, CallsIn Fence.wide n P f (fs ++ args.toArray ++ cs) w (Ret R)) ∨
  (∃ L f tmps as bd, fv = .func (.yield L) #[] #[] ∧ (Instr.yield L args.toArray).run P w = .ok (.round L f tmps as bd) w ∧ ∀ n, RoundIn Fence.wide n P L f tmps as bd w (Ret R))

theorem Enters.mono {P : Program} {fv : Value} {args : List Value} {w : World} {R R' : Value → World → Prop} (h : Enters P fv args w R) (hr : ∀ v w', R v w' → R' v w') : Enters P fv args w R' := by
  have hm : ∀ e w', Ret R e w' → Ret R' e w' := fun e w' he => by cases e <;> first | exact hr _ _ he | exact he
  rcases h with ⟨f, fn, fs, cs, h1, h2, h3, h4, h5⟩ | ⟨L, f, tmps, as, bd, h1, h2, h3⟩
  · exact .inl ⟨f, fn, fs, cs, h1, h2, h3, h4, fun n => (h5 n).mono hm⟩
  · exact .inr ⟨L, f, tmps, as, bd, h1, h2, fun n => (h3 n).mono hm⟩

/-- A handle may be trusted. -/
def HOk (P : Program) (call : Handle) : Prop :=
  ∀ (fv : Value) (args : List Value) (H : GH) (outs : List (Value × GH)), call fv args H = some outs →
    ∀ (base : Nat) (m : PM) (w : World) (fv' : Value) (args' : List Value), VR m fv fv' → VRs m args args' → Rel P base m H w → base ≤ w.heap.size →
      Enters P fv' args' w fun v' w' => ∃ x ∈ outs, ∃ m', VR m' x.1 v' ∧ Rel P base m' x.2 w' ∧ Go1 base m m' H x.2 w w'

section
variable {P : Program} {base : Nat} {m : PM} {H : GH} {w : World}

theorem Go1.lowered {m' : PM} {H' : GH} {w' : World} {l : Nat} (h : Go1 base m m' { H with lo := l } H' w w') : Go1 base m m' H { H' with lo := min H.lo H'.lo } w w' where
  le := h.le
  newId := h.newId
  fresh b p hb h0 := by
    rcases h.fresh b p hb h0 with hs | ⟨c, q, h1, h2, h3⟩
    · exact .inl hs
    · exact .inr ⟨c, q, h1, h2, by show min H.lo H'.lo ≤ c; omega⟩
  frame B hB hf := h.frame B hB fun b p hb hp => by
    have : b < min H.lo H'.lo := hf b p hb hp
    omega
  below := h.below
  keep := h.keep
  n := h.n
  lo := by show min H.lo H'.lo ≤ H.lo; omega
  same b hb hl := h.same b hb (by have : b < min H.lo H'.lo := hl; omega)

theorem Rel.regot (h : Rel P base m H w) {H' : GH} (hn : H'.n = H.n) (hg : ∀ b, b < H.n → H'.get b = H.get b) : Rel P base m H' w :=
  ⟨fun b p hb => by rw [hg b (h.id_lt hb)]; exact h.obj b p hb, fun b c p q hne hb hc => by rw [hg b (h.id_lt hb), hg c (h.id_lt hc)]; exact h.inj b c p q hne hb hc⟩
theorem Go1.regot {m' : PM} {H' H2 : GH} {w' : World} (h : Go1 base m m' H H' w w') (hn : H2.n = H'.n) (hl : H2.lo = H'.lo) (hg : ∀ b, b < H'.n → H2.get b = H'.get b) : Go1 base m m' H H2 w w' :=
  ⟨h.le, h.newId, by rw [hl]; exact h.fresh, by rw [hl]; exact h.frame, h.below, h.keep, by rw [hn]; exact h.n, by rw [hl]; exact h.lo, fun b hb hlo => by rw [hg b (Nat.lt_of_lt_of_le hb h.n)]; exact h.same b hb (hl ▸ hlo)⟩

/-- A call as an operation makes it. -/
theorem onCall_enters {call : Handle} (hc : HOk P call) {d : Nat} {f f' : Value} {args args' : List Value} {l : List (Value × GH)} (h : onCall d call f args H gRet = some l)
    (hf : VR m f f') (ha : VRs m args args') (hR : Rel P base m H w) (hb : base ≤ w.heap.size) :
    Enters P f' args' w fun v' w' => ∃ x ∈ l, ∃ m', VR m' x.1 v' ∧ Rel P base m' x.2 w' ∧ Go1 base m m' H x.2 w w' := by
  unfold onCall at h
  split at h
  · obtain ⟨l', hl, _⟩ := bindM_some h
    rw [hl] at h
    have e : bindM (some l') (fun x => gRet x.1 x.2) = some l' := bindM_ret l'
    rw [e] at h
    injection h with h
    subst h
    exact hc f args H l' hl base m w f' args' hf ha hR hb
  · split at h
    · next v H1 hl =>
      split at h
      · injection h with h
        subst h
        exact hc f args H _ hl base m w f' args' hf ha hR hb
      · cases h
    · cases h
  · split at h
    · next v H1 hl =>
      split at h
      · next hlo =>
        injection h with h
        subst h
        refine (hc f args _ _ hl base m w f' args' hf ha (hR.lo H.n) hb).mono fun v' w' ⟨x, hx, m', h1, h2, h3⟩ => ?_
        rw [List.mem_singleton] at hx
        subst hx
        obtain ⟨hl1, hl2, hl3⟩ := hlo
        have hget : ∀ b, b < H1.n → GH.get { objs := H1.objs.take (H1.n - H.n) ++ H.objs, n := H1.n, lo := min H.lo H1.lo } b = H1.get b := by
          intro b hb
          rcases Nat.lt_or_ge b H.n with hlt | hge
          · have e := h3.same b hlt (by show b < H1.lo; omega)
            rw [e]
            unfold GH.get
            simp only
            rw [if_pos hb, if_pos hlt, List.getElem?_append_right (by rw [hl3]; omega), hl3]
            congr 1
            omega
          · unfold GH.get
            simp only
            rw [if_pos hb, if_pos hb, List.getElem?_append_left (by rw [hl3]; omega), List.getElem?_take_of_lt (by omega)]
        exact ⟨_, List.mem_singleton.2 rfl, m', h1, Rel.regot (H := H1) h2 rfl hget, Go1.regot (H' := { H1 with lo := min H.lo H1.lo }) h3.lowered rfl rfl hget⟩
      · cases h
    · cases h

theorem isCall_inv {o : Oper} (h : isCall o = true) : ∃ c f, o.op = .call c ∧ c.callee = .value f := by
  unfold isCall at h
  split at h
  · next c hc =>
    split at h
    · next f hf => exact ⟨c, f, hc, hf⟩
    · cases h
  · cases h

theorem op_wpIn {F : Fence} (hF : FenceOk F) {call : Handle} (hc : HOk P call) {n d : Nat} {ρ : Operand → Value} {o : Oper} {l : List (Value × GH)} {a : Act} {K : Act → World → Prop} {Q : Exit → Act → World → Prop}
    (h : gStep P d call ρ o H gRet = some l) (hρ : ∀ y ∈ o.op.operands.toList, VR m (ρ y) (a.eval y)) (hR : Rel P base m H w) (hb : base ≤ w.heap.size)
    (hK : ∀ x ∈ l, ∀ v' w' m', VR m' x.1 v' → Rel P base m' x.2 w' → Go1 base m m' H x.2 w w' → K (a.put o.dst v') w') : o.wpIn F n P a w K Q := by
  have hnd : ∀ c, o.op ≠ .defer c := fun c e => by unfold gStep at h; rw [e] at h; cases h
  have hsem : o.semAt F.round a.eval = execOp a.eval o := by
    cases F.round with
    | none => exact Oper.semAt_none ..
    | some l => exact Oper.semAt_some l _ o hnd
  refine ⟨fun f _ => hF.fn f, ?_⟩
  rw [hsem]
  cases hcall : isCall o with
  | false =>
    obtain ⟨x, hx, v', w', m', hrun, h1, h2, h3⟩ := gStep_run hcall h hρ hR hb
    rcases hrun with hrun | ⟨hrun, rfl⟩
    · rw [hrun]; exact hK x hx v' w' m' h1 h2 h3
    · rw [hrun]; exact hK x hx _ w' m' h1 h2 h3
  | true =>
    obtain ⟨c, f, hop, hcl⟩ := isCall_inv hcall
    unfold gStep at h
    rw [hop] at h hρ
    simp only [hcl] at h
    have hargs : VRs m (c.args.toList.map ρ) (c.args.map a.eval).toList := by
      rw [Array.toList_map]
      exact VRs.map fun x hx => hρ x (by simp [Op.operands, Call.operands, hcl]; right; exact Array.mem_toList_iff.1 hx)
    have hent := onCall_enters hc h (hρ f (by simp [Op.operands, Call.operands, hcl])) hargs hR hb
    have hdep : F.depth.isSome = true → 1 ≤ n := by rw [hF.depth]; intro h; cases h
    rcases hent with ⟨g, fn, fs, cs, hv, hfn, hbd, hnm, hcalls⟩ | ⟨L, g, tmps, as, bd, hv, hy, hrounds⟩
    · have hrun : (execOp a.eval o).run P w = .ok (.enter g (fs ++ (c.args.map a.eval) ++ cs)) w := by
        have hbd' : fn.body.isNone = false := by
          cases hb' : fn.body with
          | none => rw [hb'] at hbd; cases hbd
          | some _ => rfl
        have hnm' : (fn.name == "runtime.NumGoroutine") = false := by simpa using hnm
        unfold execOp
        simp only [hop, resolve, hcl, hv, Deferred.ofValue, Sem.run_bind, Sem.run_pure, Result.andThen_ok, invoke, callFunc, run_program, hfn, hnm', hbd', if_false, Bool.false_eq_true]
      rw [hrun]
      refine ⟨hdep, hF.calls ?_⟩
      have := hcalls (n - 1)
      simp only [Array.toArray_toList] at this
      refine this.mono fun e w' he => ?_
      cases e with
      | returned v' =>
        obtain ⟨x, hx, m', h1, h2, h3⟩ := he
        exact hK x hx v' w' m' h1 h2 h3
      | panicked _ => exact he.elim
      | outgrown => exact he.elim
    · have hrun : (execOp a.eval o).run P w = .ok (.round L g tmps as bd) w := by
        simp only [Array.toArray_toList] at hy
        unfold execOp
        simp only [hop, resolve, hcl, hv, Deferred.ofValue, Sem.run_bind, Sem.run_pure, Result.andThen_ok, invoke, Array.empty_append, hy]
      rw [hrun]
      refine ⟨hdep, hF.rounds ?_⟩
      refine (hrounds (n - 1)).mono fun e w' he => ?_
      cases e with
      | returned v' =>
        obtain ⟨x, hx, m', h1, h2, h3⟩ := he
        exact hK x hx v' w' m' h1 h2 h3
      | panicked _ => exact he.elim
      | outgrown => exact he.elim
end
end Go.Gh
