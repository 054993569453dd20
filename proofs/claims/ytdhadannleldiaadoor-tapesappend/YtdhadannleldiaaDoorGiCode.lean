/- The ghost machine: code. -/
import Derived.Test.YtdhadannleldiaaDoorGhAnyC
namespace Go.Gh
open Go.RowKit
set_option linter.unusedVariables false
set_option linter.unusedSimpArgs false

section
variable {F : Fence} {n : Nat} {P : Program} {Q : Exit → Act → World → Prop} {a : Act} {w : World}

theorem stepR_scope' {b : Frame} {k : List Item} {cs : List Frame} {c : Code} : step P (lone (b.atR a (.code (.scope c) :: k)) cs w) = .next (lone (b.atR a (.code c :: .inScope c :: k)) cs w) :=
  step_lone_go (by simp [stepG, stepG.exec, Frame.atR])
theorem stepR_inScope' {b : Frame} {k : List Item} {cs : List Frame} {c : Code} : step P (lone (b.atR a (.inScope c :: k)) cs w) = .next (lone (b.atR a k) cs w) :=
  step_lone_go (by simp [stepG, stepG.exec, Frame.atR])

/-- No jump to a label. -/
def noGoto (Q : Exit → Act → World → Prop) : Exit → Act → World → Prop
  | .goto _, _, _ => False
  | e, a, w => Q e a w

theorem wpIn_loop_fuel {c : Code} (J : Nat → Act → World → Prop) (h₀ : ∃ r, J r a w) (hz : ∀ a w, ¬ J 0 a w)
    (round : ∀ r a w, J (r + 1) a w → c.wpIn F n P (Exit.then (fun a' w' => J r a' w') Q) a w) : (Code.loop c).wpIn F n P Q a w := by
  intro b k cs hro hb hr
  have key : ∀ j a w, J j a w →
      ∃ e a' w', Q e a' w' ∧ ArrivesIn (Machine.fenced P F) P (lone (b.atR a (.code c :: .inLoop c :: k)) cs w) b k cs e a' w' := by
    intro j
    induction j with
    | zero => intro a w h; exact absurd h (hz a w)
    | succ j ih =>
      intro a w hJ
      obtain ⟨e, a₁, w₁, hq, harr⟩ := round j a w hJ b (.inLoop c :: k) cs hro hb hr
      cases e with
      | normal =>
        obtain ⟨e₂, a₂, w₂, hq₂, harr₂⟩ := ih a₁ w₁ hq
        exact ⟨e₂, a₂, w₂, hq₂, .of_steps (StepsIn.trans harr (.one (fenced_calm hb hr rfl) stepR_inLoop)) harr₂⟩
      | exit id => exact ⟨_, a₁, w₁, hq, .pass (x := .inLoop c) rfl (fun _ _ => .inl (by simp)) harr⟩
      | goto l => exact ⟨_, a₁, w₁, hq, .pass (x := .inLoop c) rfl (fun _ _ => .inl (by simp)) harr⟩
      | ret => exact ⟨_, a₁, w₁, hq, .pass (x := .inLoop c) rfl (fun _ _ => .inl (by simp)) harr⟩
      | panic ch => exact ⟨_, a₁, w₁, hq, .pass (x := .inLoop c) rfl (fun _ _ => .inl (by simp)) harr⟩
      | outgrown => exact ⟨_, a₁, w₁, hq, .pass (x := .inLoop c) rfl (fun _ _ => .inl (by simp)) harr⟩
  obtain ⟨r, h₀⟩ := h₀
  obtain ⟨e, a', w', hq, harr⟩ := key r a w h₀
  exact ⟨e, a', w', hq, .of_steps (.one (fenced_calm hb hr rfl) stepR_loop) harr⟩

theorem wpIn_scope {c : Code} (h : c.wpIn F n P (noGoto Q) a w) : (Code.scope c).wpIn F n P Q a w := by
  intro b k cs hro hb hr
  have h0 : (lone (b.atR a (.code (.scope c) :: k)) cs w).fenced P F := fenced_calm hb hr rfl
  obtain ⟨e, a₁, w₁, hq, harr⟩ := h b (.inScope c :: k) cs hro hb hr
  cases e with
  | normal => exact ⟨.normal, a₁, w₁, hq, .head h0 stepR_scope' (StepsIn.trans harr (.one (fenced_calm hb hr rfl) stepR_inScope'))⟩
  | exit id =>
    have hx : exitTo id (.inScope c :: k) = exitTo id k := by simp [exitTo]
    exact ⟨.exit id, a₁, w₁, hq, fun k' hk => .head h0 stepR_scope' (harr.1 k' (by rw [hx]; exact hk)),
      fun hr' hk => let ⟨k₁, h1, h2⟩ := harr.2 hr' (by rw [hx]; exact hk); ⟨k₁, h1, .head h0 stepR_scope' h2⟩⟩
  | goto l => exact hq.elim
  | ret => exact ⟨_, a₁, w₁, hq, .of_steps (.one h0 stepR_scope') harr⟩
  | panic ch => exact ⟨_, a₁, w₁, hq, .of_steps (.one h0 stepR_scope') harr⟩
  | outgrown => exact ⟨_, a₁, w₁, hq, .of_steps (.one h0 stepR_scope') harr⟩
end

def toExit : GExit → Exit
  | .normal => .normal
  | .exit id => .exit id
  | .ret => .ret

/-- The block of a range over a function's deferred calls. -/
def markOf (D : Nat) : Deferred := { target := .collected D, args := #[] }
/-- Marks have been laid, each with a block of its own. -/
def Marks (w w' : World) (act act' : Act) : Prop :=
  ∃ ds : List Nat, act'.defers = ds.map markOf ++ act.defers ∧ ds.Nodup ∧ ∀ D ∈ ds, w.heap.size ≤ D ∧ w'.heap[D]? = some (.deferred (some []))
theorem Marks.same {w w' : World} {act act' : Act} (h : act'.defers = act.defers) : Marks w w' act act' := ⟨[], by simpa using h, List.nodup_nil, fun _ h => by cases h⟩
theorem Marks.trans {w w1 w2 : World} {act act1 act2 : Act} (h : Marks w w1 act act1) (k : Marks w1 w2 act1 act2) (g1 : Keep w w1) (g2 : Keep w1 w2) : Marks w w2 act act2 := by
  obtain ⟨ds, h1, h2, h3⟩ := h
  obtain ⟨es, k1, k2, k3⟩ := k
  refine ⟨es ++ ds, by rw [k1, h1]; simp, ?_, fun D hD => ?_⟩
  · rw [List.nodup_append]
    refine ⟨k2, h2, fun a ha b hb e => ?_⟩
    subst e
    have := (k3 a ha).1
    have := (Array.getElem?_eq_some_iff.1 (h3 a hb).2).1
    omega
  · rcases List.mem_append.1 hD with hD | hD
    · exact ⟨Nat.le_trans g1.size (k3 D hD).1, (k3 D hD).2⟩
    · exact ⟨(h3 D hD).1, g2.defs D _ (h3 D hD).2⟩

/-- Where code that was begun at (m, H, w, act) has come to. -/
structure At (P : Program) (base : Nat) (m : PM) (H : GH) (w : World) (act : Act) (a' : GA) (m' : PM) (H' : GH) (w' : World) (act' : Act) : Prop where
  tmps : VRs m' a' act'.tmps.toList
  rel : Rel P base m' H' w'
  go : Go1 base m m' H H' w w'
  marks : Marks w w' act act'
theorem At.trans {P : Program} {base : Nat} {m m1 m2 : PM} {H H1 H2 : GH} {w w1 w2 : World} {act act1 act2 : Act} {a1 a2 : GA} (h : At P base m H w act a1 m1 H1 w1 act1) (k : At P base m1 H1 w1 act1 a2 m2 H2 w2 act2) :
    At P base m H w act a2 m2 H2 w2 act2 := ⟨k.tmps, k.rel, h.go.trans k.go, h.marks.trans k.marks h.go.keep k.go.keep⟩
theorem At.refl {P : Program} {base : Nat} {m : PM} {H : GH} {w : World} {act : Act} {a : GA} (h : VRs m a act.tmps.toList) (hR : Rel P base m H w) : At P base m H w act a m H w act := ⟨h, hR, .refl _ _ _ _, .same rfl⟩

/-- A round's loop has its record. -/
def RoundAt (F : Fence) (w : World) : Prop := ∀ l, F.round = some l → ∃ r : Loop, w.heap[l]? = some (.loop r)
theorem RoundAt.keep {F : Fence} {w w' : World} (h : RoundAt F w) (k : Keep w w') : RoundAt F w' := fun l hl => by
  obtain ⟨r, hr⟩ := h l hl
  exact k.loop l r hr

/-- What is claimed of a piece of code. -/
def CodeOk (F : Fence) (n : Nat) (P : Program) (base : Nat) (c : Code) (f : {β : Type} → GA → GH → Kont β → M β) : Prop :=
  ∀ {β : Type} {K : Kont β} {outs : List β} {a : GA} {H : GH} {m : PM} {w : World} {act : Act} {Q : Exit → Act → World → Prop}, f a H K = some outs → VRs m a act.tmps.toList → Rel P base m H w → base ≤ w.heap.size → RoundAt F w →
    (∀ e a' H' m' w' act' o, K e a' H' = some o → o ⊆ outs → At P base m H w act a' m' H' w' act' → Q (toExit e) act' w') → c.wpIn F n P Q act w

section
variable {P : Program} {base : Nat} {F : Fence} {n : Nat}

theorem loop_sound {c : Code} {f : {β : Type} → GA → GH → Kont β → M β} (hc : CodeOk F n P base c f) (k : Nat) : CodeOk F n P base (.loop c) fun a H K => gLoop (f) K k a H := by
  intro β K outs a H m w act Q h hA hR hb hro hK
  let J : Nat → Act → World → Prop := fun r act' w' => ∃ a' H' m' o, gLoop f K r a' H' = some o ∧ o ⊆ outs ∧ At P base m H w act a' m' H' w' act'
  have hJ0 : ∀ act' w', ¬ J 0 act' w' := fun act' w' ⟨a', H', m', o, h, _⟩ => by simp [gLoop] at h
  refine wpIn_loop_fuel J ⟨k, a, H, m, outs, h, fun _ hx => hx, .refl hA hR⟩ hJ0 fun r act1 w1 hJ => ?_
  obtain ⟨a1, H1, m1, o, hl, hs, hat⟩ := hJ
  unfold gLoop at hl
  refine hc hl hat.tmps hat.rel (Nat.le_trans hb hat.go.keep.size) (hro.keep hat.go.keep) fun e a2 H2 m2 w2 act2 o2 hk hs2 hat2 => ?_
  have hat3 := hat.trans hat2
  cases e with
  | normal => exact ⟨a2, H2, m2, o2, hk, fun x hx => hs (hs2 hx), hat3⟩
  | exit id => exact hK (.exit id) a2 H2 m2 w2 act2 o2 hk (fun x hx => hs (hs2 hx)) hat3
  | ret => exact hK .ret a2 H2 m2 w2 act2 o2 hk (fun x hx => hs (hs2 hx)) hat3
end
end Go.Gh
/- The ghost machine: a range over a function. -/
namespace Go.Gh
open Go.RowKit
set_option linter.unusedVariables false
set_option linter.unusedSimpArgs false

section
variable {P : Program} {base : Nat} {F : Fence} {n : Nat}

theorem Keep.alloc (w : World) (o : Obj) : Keep w (w.alloc o) :=
  ⟨by simp, fun L q hL => ⟨q, (Below.heap_alloc w o L (Array.getElem?_eq_some_iff.1 hL).1).trans hL⟩, fun D ds hD => (Below.heap_alloc w o D (Array.getElem?_eq_some_iff.1 hD).1).trans hD⟩
theorem Grown.alloc {w : World} (hb : base ≤ w.heap.size) (o : Obj) : Grown base w (w.alloc o) :=
  ⟨fun B hB => Below.heap_alloc w o B hB, (Below.refl base w).alloc hb o, Keep.alloc w o⟩
theorem Grown.refl (w : World) : Grown base w w := ⟨fun _ _ => rfl, .refl _ _, .refl _⟩

theorem getLoop_run {w : World} {l : Nat} {r : Loop} (h : w.heap[l]? = some (.loop r)) : (Instr.getLoop l).run P w = .ok r w := by
  simp [Instr.getLoop, run_getObj (P := P) h (by intro _ _ _ h; cases h)]

theorem enterLoop_run {w : World} (hb : base ≤ w.heap.size) {fn : FuncId} {tmps : Array Value} {ps : Array Tmp} {as bd : Code} (hro : RoundAt F w) :
    ∃ (wa : World) (D : Nat) (ds : List Nat), (Instr.enterLoop fn tmps ps as bd F.round).run P w = .ok (wa.heap.size, ds.map markOf) (wa.alloc (.loop { state := .ready, pending := none, fn, tmps, params := ps, assign := as, body := bd, defers := D })) ∧
      Grown base w wa ∧ ds.Nodup ∧ ∀ D' ∈ ds, w.heap.size ≤ D' ∧ wa.heap[D']? = some (.deferred (some [])) := by
  cases hr : F.round with
  | none =>
    refine ⟨w.alloc (.deferred (some [])), w.heap.size, [w.heap.size], ?_, .alloc hb _, by simp, fun D' hD => ?_⟩
    · simp [Instr.enterLoop, run_newObj, markOf]
    · rw [List.mem_singleton] at hD
      subst hD
      exact ⟨Nat.le_refl _, heap_alloc_at _ _⟩
  | some l =>
    obtain ⟨r, hl⟩ := hro l hr
    refine ⟨w, r.defers, [], ?_, .refl _, List.nodup_nil, fun _ h => by cases h⟩
    simp [Instr.enterLoop, run_newObj, getLoop_run hl]

theorem range_sound (hF : FenceOk F) {call : Handle} (hc : HOk P call) {g : Operand} {ps : Array Tmp} {as bd : Code} (hg : opndOk g = true) (h1 : codeOk as = true) (h2 : codeOk bd = true) (k : Nat) :
    CodeOk F n P base (.rangeFunc g ps as bd) (fun {β} a H K => gCode P call k (.rangeFunc g ps as bd) a H K) := by
  intro β K outs a H m w act Q h hA hR hb hro hK
  have h : gCode P call k (.rangeFunc g ps as bd) a H K = some outs := h
  unfold gCode at h
  split at h
  case h_2 => cases h
  next f fs cs hgv =>
  obtain ⟨l, hl, hout⟩ := bindM_some h
  refine wpIn_rangeFunc fun fn _ => ?_
  obtain ⟨wa, D, ds, hent, hgr, hnd, hds⟩ := enterLoop_run (P := P) (F := F) (fn := fn) (tmps := act.tmps) (ps := ps) (as := as) (bd := bd) hb hro
  have hRa := hR.grown hgr
  have hGa : Go1 base m m H H w wa := (Go1.refl base m H w).grown hgr (.refl m) fun b p h h' => by rw [h] at h'; cases h'
  have hba : base ≤ wa.heap.size := Nat.le_trans hb hgr.keep.size
  let rec0 : Loop := { state := .ready, pending := none, fn, tmps := act.tmps, params := ps, assign := as, body := bd, defers := D }
  let p : Pin := ⟨wa.heap.size, 0, 0, 0, false⟩
  obtain ⟨hR1, hG1⟩ := hRa.new hba (.loop .ready none a ps.toList as bd) (.loop rec0) p rfl (.loop hba rfl rfl rfl rfl rfl h1 h2 (hA.mono (hRa.put_le p)))
  have hG01 := hGa.trans hG1
  have hpin : (m.put H.n p) H.n = some p := PM.put_same m H.n p
  have hgV := eval_VR hR.glob hA hg
  rw [hgv] at hgV
  have hb1 : base ≤ (wa.alloc (.loop rec0)).heap.size := Nat.le_trans hba (Keep.alloc _ _).size
  have hent2 := hc _ _ _ _ hl base _ _ (act.eval g) [.func (.yield wa.heap.size) #[] #[]] (hgV.mono (hRa.put_le p)) (.cons (.yield hpin) .nil) hR1 hb1
  generalize hev : act.eval g = gv at hgV hent2
  cases hgV with
  | func _ _ gs _ es q1 q2 q3 q4 =>
  rcases hent2 with ⟨f', fn', fs', cs', e, hfn, hbd, hnm, hcalls⟩ | ⟨L, f', tmps, as', bd', e, _⟩
  case inr => cases e
  injection e with e1 e2 e3
  injection e1 with e1
  subst e1; subst e2; subst e3
  have hbd' : fn'.body.isNone = false := by
    cases hb' : fn'.body with
    | none => rw [hb'] at hbd; cases hbd
    | some _ => rfl
  have hnm' : (fn'.name == "runtime.NumGoroutine") = false := by simpa using hnm
  refine ⟨wa.heap.size, ds.map markOf, wa.alloc (.loop rec0), { target := .fn (.func f) es, args := gs ++ #[.func (.yield wa.heap.size) #[] #[]] }, wa.alloc (.loop rec0), f, gs ++ #[.func (.yield wa.heap.size) #[] #[]] ++ es, wa.alloc (.loop rec0), hent, ?_, fun f' _ => hF.fn f', ?_, (fun h => by rw [hF.depth] at h; cases h), hF.calls ?_⟩
  · have : Act.eval act (.const (.func (.yield wa.heap.size) #[] #[])) = .func (.yield wa.heap.size) #[] #[] := rfl
    simp [resolve, rangeCall, hev, Deferred.ofValue, this]
  · simp only [invoke, callFunc, Sem.run_bind, run_program, Result.andThen_ok, hfn, hnm', hbd', if_false, Bool.false_eq_true, Sem.run_pure]
  · have hcl := hcalls (n - 1)
    refine CallsIn.mono hcl ?_
    intro e w3 he
    cases e with
    | panicked _ => exact he.elim
    | outgrown => exact he.elim
    | returned v =>
      obtain ⟨x, hx, m3, _, hR3, hG3⟩ := he
      obtain ⟨o, ho, hs⟩ := hout x hx
      have hp3 := hG3.le _ _ hpin
      obtain ⟨go, ro, hgo, hro3, hobj⟩ := hR3.obj _ _ hp3
      -- the record at the end
      have hA3 : VRs m3 a act.tmps.toList := hA.mono (hG01.le.trans hG3.le)
      have key : ∀ (st : LoopState) (pe : Option Code) (tmps : List Value) (ps' : List Tmp) (as' bd' : Code), x.2.get H.n = some (.loop st pe tmps ps' as' bd') → st ≠ .busy →
          ∃ w4, (Instr.endLoop wa.heap.size).run P w3 = .ok pe w4 ∧ At P base m H w act a m3 (x.2.set H.n (.loop .exhausted pe tmps ps' as' bd')) w4 { act with defers := ds.map markOf ++ act.defers } := by
        intro st pe tmps ps' as' bd' hget hst
        rw [hgo] at hget
        injection hget with hget
        subst hget
        cases hobj with
        | loop q0 q1 q2 q3 q4 q5 q6 q7 q8 =>
          rename_i r
          subst q1; subst q2
          have hro3' : w3.heap[wa.heap.size]? = some (.loop r) := hro3
          have hrun : (Instr.endLoop wa.heap.size).run P w3 = .ok r.pending { w3 with heap := w3.heap.setIfInBounds wa.heap.size (.loop { r with state := .exhausted }) } := by
            have hne : (r.state == .busy) = false := by
              cases hs : r.state <;> first | rfl | (rw [hs] at hst; exact absurd rfl hst)
            simp only [Instr.endLoop, Sem.run_bind, getLoop_run (P := P) hro3', Result.andThen_ok, hne, if_false, Bool.false_eq_true]
            simp [setObj, Sem.run, hro3']
          obtain ⟨hR4, hG4⟩ := hR3.turn (o := .loop .exhausted r.pending tmps ps' as' bd') (r := .loop { r with state := .exhausted }) (w' := { w3 with heap := w3.heap.setIfInBounds wa.heap.size (.loop { r with state := .exhausted }) })
            hp3 (by rw [hgo]; rfl) q0 rfl rfl rfl rfl (.loop q0 rfl rfl q3 q4 q5 q6 q7 q8) (fun _ _ => ⟨_, rfl⟩) (fun ds hd => by rw [hro3] at hd; cases hd) (hR3.alone hp3 (by rw [hgo]; rfl) q0)
          refine ⟨_, hrun, hA3, hR4, (hG01.trans hG3).trans hG4, ds, rfl, hnd, fun D' hD' => ⟨(hds D' hD').1, ?_⟩⟩
          exact ((hG1.trans hG3).trans hG4).keep.defs D' _ (hds D' hD').2
      unfold gEndRange at ho
      split at ho
      · cases ho
      · next st tmps ps' as' bd' hget hnb =>
        obtain ⟨w4, hrun, hat⟩ := key _ _ _ _ _ _ hnb (fun h => hget h)
        exact ⟨none, w4, hrun, hK .normal _ _ _ _ _ _ ho hs hat⟩
      · next st tmps ps' as' bd' hget hnb =>
        obtain ⟨w4, hrun, hat⟩ := key _ _ _ _ _ _ hnb (fun h => hget h)
        exact ⟨some .ret, w4, hrun, wpIn_ret (hK .ret _ _ _ _ _ _ ho hs hat)⟩
      · next st id tmps ps' as' bd' hget hnb =>
        obtain ⟨w4, hrun, hat⟩ := key _ _ _ _ _ _ hnb (fun h => hget h)
        exact ⟨some (.exit id), w4, hrun, wpIn_exit (hK (.exit id) _ _ _ _ _ _ ho hs hat)⟩
      · cases ho
end
end Go.Gh
/- The ghost machine: each piece of code; a function's call. -/
namespace Go.Gh
open Go.RowKit
set_option linter.unusedVariables false
set_option linter.unusedSimpArgs false

section
variable {P : Program} {base : Nat} {F : Fence} {n : Nat}

theorem asB_VR {m : PM} {v v' : Value} {b : Bool} (h : asB v = some b) (hv : VR m v v') : v' = .bool b := by
  cases hv <;> simp [asB] at h
  rw [h]

theorem code_sound (hF : FenceOk F) {call : Handle} (hc : HOk P call) (hmix : P.follows .mixedOrders = true) (k : Nat) :
    ∀ c : Code, codeOk c = true → CodeOk F n P base c (fun {β} a H K => gCode P call k c a H K) := by
  intro c
  induction c with
  | skip =>
    intro _ β K outs a H m w act Q h hA hR hb hro hK
    exact wpIn_skip (hK .normal a H m w act outs h (fun _ hx => hx) (.refl hA hR))
  | label l =>
    intro _ β K outs a H m w act Q h hA hR hb hro hK
    exact wpIn_label (hK .normal a H m w act outs h (fun _ hx => hx) (.refl hA hR))
  | goto l => intro _ β K outs a H m w act Q h hA hR hb hro hK; cases h
  | refuse l => intro _ β K outs a H m w act Q h hA hR hb hro hK; cases h
  | exit id =>
    intro _ β K outs a H m w act Q h hA hR hb hro hK
    exact wpIn_exit (hK (.exit id) a H m w act outs h (fun _ hx => hx) (.refl hA hR))
  | ret =>
    intro _ β K outs a H m w act Q h hA hR hb hro hK
    exact wpIn_ret (hK .ret a H m w act outs h (fun _ hx => hx) (.refl hA hR))
  | seq x y ihx ihy =>
    intro hok β K outs a H m w act Q h hA hR hb hro hK
    simp only [codeOk, Bool.and_eq_true] at hok
    have h : gCode P call k x a H (hSeq (gCode P call k y) K) = some outs := h
    refine wpIn_seq (ihx hok.1 h hA hR hb hro fun e a1 H1 m1 w1 act1 o hk hs hat => ?_)
    cases e with
    | normal => exact ihy hok.2 (K := K) hk hat.tmps hat.rel (Nat.le_trans hb hat.go.keep.size) (hro.keep hat.go.keep) fun e a2 H2 m2 w2 act2 o2 hk2 hs2 hat2 => hK e a2 H2 m2 w2 act2 o2 hk2 (fun z hz => hs (hs2 hz)) (hat.trans hat2)
    | exit id => exact hK (.exit id) a1 H1 m1 w1 act1 o hk hs hat
    | ret => exact hK .ret a1 H1 m1 w1 act1 o hk hs hat
  | cond c x y ihx ihy =>
    intro hok β K outs a H m w act Q h hA hR hb hro hK
    simp only [codeOk, Bool.and_eq_true] at hok
    have h : onBool (asB (a.eval c)) (gCode P call k x a H K) (gCode P call k y a H K) = some outs := h
    have hcv := eval_VR hR.glob hA hok.1.1
    cases hb1 : asB (a.eval c) with
    | none => rw [hb1] at h; cases h
    | some b =>
      rw [hb1] at h
      have hev := asB_VR hb1 hcv
      cases b with
      | true => exact wpIn_cond_true hev (ihx hok.1.2 h hA hR hb hro hK)
      | false => exact wpIn_cond_false hev (ihy hok.2 h hA hR hb hro hK)
  | block id c ih =>
    intro hok β K outs a H m w act Q h hA hR hb hro hK
    have hok : codeOk c = true := hok
    have h : gCode P call k c a H (hBlock id K) = some outs := h
    refine wpIn_block (ih hok h hA hR hb hro fun e a1 H1 m1 w1 act1 o hk hs hat => ?_)
    cases e with
    | normal => exact hK .normal a1 H1 m1 w1 act1 o hk hs hat
    | exit id' =>
      show (if id' = id then Q .normal act1 w1 else Q (.exit id') act1 w1)
      have hk : (if id' = id then K .normal a1 H1 else K (.exit id') a1 H1) = some o := hk
      by_cases e : id' = id
      · rw [if_pos e] at hk ⊢
        exact hK .normal a1 H1 m1 w1 act1 o hk hs hat
      · rw [if_neg e] at hk ⊢
        exact hK (.exit id') a1 H1 m1 w1 act1 o hk hs hat
    | ret => exact hK .ret a1 H1 m1 w1 act1 o hk hs hat
  | scope c ih =>
    intro hok β K outs a H m w act Q h hA hR hb hro hK
    have hok : codeOk c = true := hok
    have h : gCode P call k c a H K = some outs := h
    refine wpIn_scope (ih hok h hA hR hb hro fun e a1 H1 m1 w1 act1 o hk hs hat => ?_)
    cases e with
    | normal => exact hK .normal a1 H1 m1 w1 act1 o hk hs hat
    | exit id => exact hK (.exit id) a1 H1 m1 w1 act1 o hk hs hat
    | ret => exact hK .ret a1 H1 m1 w1 act1 o hk hs hat
  | loop c ih =>
    intro hok β K outs a H m w act Q h hA hR hb hro hK
    have hok : codeOk c = true := hok
    exact loop_sound (f := fun {β} a H K => gCode P call k c a H K) (ih hok) k (K := K) (outs := outs) h hA hR hb hro hK
  | rangeFunc g ps as bd iha ihb =>
    intro hok β K outs a H m w act Q h hA hR hb hro hK
    simp only [codeOk, Bool.and_eq_true] at hok
    exact range_sound hF hc hok.1.1 hok.1.2 hok.2 k (K := K) (outs := outs) h hA hR hb hro hK
  | region id ops draw =>
    intro hok β K outs a H m w act Q h hA hR hb hro hK
    simp only [codeOk, Bool.and_eq_true] at hok
    have h : (match gMode P ops draw with
      | some d => gOps P d call ops.toList 0 ops.toList a H (K .normal)
      | none => none) = some outs := h
    have hops : ∀ o ∈ ops.toList, opOk o = true := fun o ho => List.all_eq_true.1 hok.1 o ho
    cases draw with
    | false =>
      have h : gOps P 0 call ops.toList 0 ops.toList a H (K .normal) = some outs := h
      exact wpIn_region_list (gOps_sound hF hc ops.toList hops h hA hR hb fun a' H' m' act' w' o hk hs h1 h2 h3 h4 => hK .normal a' H' m' w' act' o hk hs ⟨h1, h2, h3, .same h4⟩)
    | true =>
      have hst := hok.2
      simp only [Bool.not_true, Bool.false_or, Bool.and_eq_true] at hst
      unfold gMode at h
      simp only [if_true] at h
      split at h
      · next d hd =>
        split at hd
        · next hm =>
          injection hd with hd
          subst hd
          exact region_any hF hc hmix (c := 2) (d := 1) (.inr (.inl ⟨rfl, rfl⟩)) hst.1 hm hst.2 hops h hA hR hb fun a' H' m' act' w' o hk hs h1 h2 h3 h4 => hK .normal a' H' m' w' act' o hk hs ⟨h1, h2, h3, .same h4⟩
        · split at hd
          · next hm =>
            injection hd with hd
            subst hd
            exact region_any hF hc hmix (c := 1) (d := 2) (.inl ⟨rfl, rfl⟩) hst.1 hm hst.2 hops h hA hR hb fun a' H' m' act' w' o hk hs h1 h2 h3 h4 => hK .normal a' H' m' w' act' o hk hs ⟨h1, h2, h3, .same h4⟩
          · split at hd
            · next hm =>
              injection hd with hd
              subst hd
              exact region_any hF hc hmix (.inr (.inr ⟨rfl, by omega⟩)) hst.1 hm hst.2 hops h hA hR hb fun a' H' m' act' w' o hk hs h1 h2 h3 h4 => hK .normal a' H' m' w' act' o hk hs ⟨h1, h2, h3, .same h4⟩
            · cases hd
      · cases h
end
end Go.Gh
