/- The ghost machine: regions whose order is drawn: each order comes to the same. -/
import Derived.Test.YthicilkmjamefaaGhAnyB
namespace Go.Gh
open Go.RowKit
set_option linter.unusedVariables false
set_option linter.unusedSimpArgs false

section
variable {P : Program} {base : Nat} {m : PM} {w : World} {d c : Nat} {call : Handle} {ops : Array Oper} {as : Nat → GA} {hs : Nat → GH} {vs : Nat → Value} {m0 : PM} {w0 : World} {act0 : Act} {listed : Array Bool} {act : Act} {ν0 ν : Nat}

theorem opt_eval {m : PM} {o : Oper} {a : GA} {act : Act} (h : ∀ t ∈ o.looksAt ops, OptVR m a[t]? act.tmps[t]?) (hok : opOk o = true) : ∀ y ∈ o.op.operands.toList, VR m (a.eval y) (act.eval y) := by
  intro y hy
  have hy' := List.all_eq_true.1 hok y hy
  cases y with
  | tmp t =>
    have ht := h t (List.mem_append_left _ (List.mem_filterMap.2 ⟨.tmp t, hy, rfl⟩))
    simp only [GA.eval, Act.eval]
    rw [List.getD_eq_getElem?_getD, Array.getD_eq_getD_getElem?]
    cases hx : a[t]? with
    | none =>
      rw [hx] at ht
      cases hz : act.tmps[t]? with
      | none => exact VR.undef
      | some _ => rw [hz] at ht; exact ht.elim
    | some u =>
      rw [hx] at ht
      cases hz : act.tmps[t]? with
      | none => rw [hz] at ht; exact ht.elim
      | some u' => rw [hz] at ht; exact ht
  | const v => exact closed_VR hy'
  | global g => simp [opndOk] at hy'
  | func f => exact .func f #[] #[] #[] #[] rfl (fun i hi => absurd hi (by simp)) rfl (fun i hi => absurd hi (by simp))

theorem Go1.grownOf {m' : PM} {H H' : GH} {w' : World} {N : Nat} (h : Go1 base m m' H H' w w') (hm : ∀ b p, m b = some p → b < N) (hl : H'.lo = N) : Grown base w w' :=
  ⟨fun B hB => h.frame B hB fun b p hb _ => by rw [hl]; exact hm b p hb, h.below, h.keep⟩

/-- Where a ready operation that touches memory stands: nothing is turned between ν and it. -/
theorem Inv.calm_to (I : Inv P base d c ops as hs m0 w0 act0 listed act w m ν0 ν) (hM : memOk P c ops = true) {j : Nat} {o : Oper} (hj : ops[j]? = some o) (hr : j ∈ Region.ready .any ops listed) (h0 : opCls P c o ≠ 0) :
    ∀ (k : Nat) (ok : Oper), ops[k]? = some ok → ν ≤ k → k < j → opCls P c ok ≠ 2 := by
  intro k ok hk hge hlt h2
  have hun := I.rest k ok hk hge (by omega)
  rcases memOk_spec hM hk hj hlt with h | h | h | h
  · exact h0 h
  · omega
  · exact h.1 h2
  · rw [I.ready_before hr h] at hun; cases hun

theorem Inv.op {F : Fence} (hF : FenceOk F) (hc : HOk P call) {n : Nat} {K : Act → World → Prop} {Q : Exit → Act → World → Prop}
    (I : Inv P base d c ops as hs m0 w0 act0 listed act w m ν0 ν) (T : Trace P d call ops.toList ops.toList as hs vs) (hcd : (c = 1 ∧ d = 2) ∨ (c = 2 ∧ d = 1) ∨ (c = d ∧ 3 ≤ d))
    (hM : memOk P c ops = true) (hT : tmpsOk ops = true) (hok : ∀ (j : Nat) (o : Oper), ops[j]? = some o → opOk o = true) (hb : base ≤ w.heap.size)
    {j : Nat} (hr : j ∈ Region.ready .any ops listed)
    (hK : ∀ act' w' m' ν0' ν', Inv P base d c ops as hs m0 w0 act0 (listed.setIfInBounds j true) act' w' m' ν0' ν' → K act' w') :
    wpOpIn F n P ops Q j K act w := by
  obtain ⟨_, o, hj, _⟩ := mem_ready.1 hr
  have hd0 : d ≠ 0 := by omega
  have hjs : j < ops.size := (Array.getElem?_eq_some_iff.1 hj).1
  have hsees := fun t ht => I.sees hT hj hr (t := t) ht
  obtain ⟨has, hst⟩ := T.step j o (by rw [Array.getElem?_toList]; exact hj)
  have hwant : ∀ b, gWanted ops.toList (as j) o = some b → Region.wanted o (yielded ops act.tmps) = b := fun b hg =>
    wanted_eq (m := lim m (hs j).n) hg fun g want t hgd hdst v hv => by
      have ht : t ∈ o.looksAt ops := List.mem_append_right _ (by rw [hgd]; simp [hdst])
      have := hsees t ht
      rw [hv] at this
      cases hy : act.tmps[t]? with
      | none => rw [hy] at this; exact this.elim
      | some v' => rw [hy] at this; exact ⟨v', rfl, this⟩
  unfold wpOpIn
  rw [hj]
  simp only
  have hjN : ∀ b p, m b = some p → (hs j).n ≤ b → b < (hs (j + 1)).n → False := fun b p hbm h1 h2 => by
    rcases I.own b p hbm with h | ⟨k, ok, hk, hl, h3, h4⟩
    · have := I.hm0 b p h
      have := T.mono hd0 (Nat.zero_le j) (by omega)
      omega
    · have hks : k < ops.size := (Array.getElem?_eq_some_iff.1 hk).1
      rcases Nat.lt_trichotomy k j with hlt | heq | hgt
      · have := T.mono hd0 (i := k + 1) (j := j) (by omega) (by omega); omega
      · subst heq; rw [ready_un hr] at hl; cases hl
      · have := T.mono hd0 (i := j + 1) (j := k) (by omega) (by omega); omega
  rcases cls_le (P := P) c (by omega) o with hcl | hcl | hcl
  · -- no memory
    have hmut : ∀ (k : Nat) (ok : Oper), ops[k]? = some ok → k < ν → opCls P c ok = 2 → k = j ∨ listed.getD k false = true := fun k ok hk hlt h2 => .inr (I.turned k ok hk hlt h2)
    have hrest : ∀ (k : Nat) (ok : Oper), ops[k]? = some ok → ν ≤ k → opCls P c ok ≠ 0 → k ≠ j ∧ listed.getD k false = false := fun k ok hk hge h2 =>
      ⟨fun e => by subst e; rw [hj] at hk; injection hk with hk; subst hk; exact h2 hcl, I.rest k ok hk hge h2⟩
    rcases hst with ⟨hg, hst⟩ | ⟨hg, hv, hh⟩
    · rw [hwant _ hg]
      simp only [if_true]
      obtain ⟨v, e, hany⟩ := step0 (c := c) (by omega) hcl hst
      injection e with e _
      injection e with e1 e2
      have hdead := hany (deadH (hs j).n)
      have hRd := (I.rel T hcd).deadened (hs j).n
      refine op_wpIn hF hc hdead (opt_eval hsees (hok j o hj)) hRd hb fun x hx v' w' m' hv hrel hgo => ?_
      rw [List.mem_singleton] at hx
      subst hx
      have hm' : m' = lim m (hs j).n := by
        funext b
        cases hb' : lim m (hs j).n b with
        | some p => exact hgo.le b p hb'
        | none =>
          cases hb2 : m' b with
          | none => rfl
          | some p =>
            have h1 := hgo.newId b p hb2 hb'
            have h2 := hrel.id_lt hb2
            exact absurd h2 (Nat.not_lt.2 h1)
      subst hm'
      have hgr : Grown base w w' := hgo.grownOf (N := (hs j).n) (fun b p hbm => (lim_some hbm).1) rfl
      refine hK _ _ m ν0 ν (I.adv T hd0 hT hj hr I.hν I.h0 I.calm0 I.last (.refl m) ?_ hmut hrest (fun k a b => (I.relk k a b).grown hgr) (I.go.grown hgr (.refl m) fun b p h1 h2 => by rw [h1] at h2; cases h2) fun b p h => .inl h)
      rw [← e1] at hv
      exact hv.mono (lim_mono (.refl m) (T.grows hd0 hjs))
    · rw [hwant _ hg]
      simp only [Bool.false_eq_true, if_false]
      exact ⟨fun f _ => hF.fn f, hK _ _ m ν0 ν (I.adv T hd0 hT hj hr I.hν I.h0 I.calm0 I.last (.refl m) (by rw [hv]; exact VR.undef) hmut hrest I.relk I.go fun b p h => .inl h)⟩
  · -- it looks, or lays new blocks
    have I1 := I.shift T hcd (ν' := max ν (j + 1)) (by omega) (by have := I.hν; omega) fun k ok hk hge hlt h2 => by
      rcases Nat.lt_or_ge k j with h | h
      · exact I.calm_to hM hj hr (by omega) k ok hk hge h h2
      · have : k = j := by omega
        subst this
        rw [hj] at hk; injection hk with hk; subst hk; omega
    have hcalm : ∀ (k : Nat) (ok : Oper), ops[k]? = some ok → j ≤ k → k < max ν (j + 1) → opCls P c ok ≠ 2 := fun k ok hk hge hlt h2 => by
      rcases Nat.lt_or_ge j k with h | h
      · rcases memOk_spec hM hj hk h with h3 | h3 | h3 | h3
        · omega
        · omega
        · exact h3.2 h2
        · have := I1.turned k ok hk hlt h2
          have := I.down k j this h3
          rw [ready_un hr] at this; cases this
      · have : k = j := by omega
        subst this
        rw [hj] at hk; injection hk with hk; subst hk; omega
    have hmut : ∀ (k : Nat) (ok : Oper), ops[k]? = some ok → k < max ν (j + 1) → opCls P c ok = 2 → k = j ∨ listed.getD k false = true := fun k ok hk hlt h2 => .inr (I1.turned k ok hk hlt h2)
    have hrest : ∀ (k : Nat) (ok : Oper), ops[k]? = some ok → max ν (j + 1) ≤ k → opCls P c ok ≠ 0 → k ≠ j ∧ listed.getD k false = false := fun k ok hk hge h2 => ⟨by omega, I1.rest k ok hk hge h2⟩
    rcases hst with ⟨hg, hst⟩ | ⟨hg, hv, hh⟩
    · rw [hwant _ hg]
      simp only [if_true]
      obtain ⟨hq, hst2⟩ := step1 hcd hcl hst
      have hq1 : Quiet (hs j) (hs (max ν (j + 1))) := T.calms hcd (by omega) I1.hν hcalm
      have hq2 : Quiet (hs (j + 1)) (hs (max ν (j + 1))) := T.calms hcd (by omega) I1.hν fun k ok hk hge hlt => hcalm k ok hk (by omega) hlt
      have hj0 : ν0 ≤ j := by
        rcases I.last with h | ⟨i, oi, h, hi, h2⟩
        · omega
        · rcases Nat.lt_or_ge j ν0 with hlt | hge
          · have hli : listed.getD i false = true := I1.turned i oi hi (by have := I1.h0; omega) h2
            rcases Nat.lt_or_ge j i with hji | hji
            · rcases memOk_spec hM hj hi hji with h3 | h3 | h3 | h3
              · omega
              · omega
              · exact absurd h2 h3.2
              · have := I.down i j hli h3
                rw [ready_un hr] at this; cases this
            · have : i = j := by omega
              subst this
              rw [hj] at hi; injection hi with hi; subst hi; omega
          · exact hge
      have hRj : Rel P base (lim m (hs j).n) { hs j with lo := (hs j).n } w := (I1.relk j hj0 (by omega)).lo _
      refine op_wpIn hF hc hst2 (opt_eval hsees (hok j o hj)) hRj hb fun x hx v' w' m1 hv hrel hgo => ?_
      rw [List.mem_singleton] at hx
      subst hx
      have hgr : Grown base w w' := hgo.grownOf (N := (hs j).n) (fun b p hbm => (lim_some hbm).1) rfl
      have hrel1 : Rel P base m1 (hs (j + 1)) w' := hrel.lo (hs (j + 1)).lo
      -- the pins of both
      let m' : PM := fun b => match m b with | some p => some p | none => m1 b
      have hmm : PM.le m m' := fun b p h => by show (match m b with | some p => some p | none => m1 b) = some p; rw [h]
      have hm1 : PM.le m1 (lim m' (hs (j + 1)).n) := fun b p h => by
        have hlt := hrel1.id_lt h
        refine lim_of hlt ?_
        show (match m b with | some p => some p | none => m1 b) = some p
        cases hb' : m b with
        | none => exact h
        | some q =>
          rcases Nat.lt_or_ge b (hs j).n with h1 | h1
          · have := hgo.le b q (lim_of h1 hb')
            rw [h] at this
            exact this.symm
          · exact (hjN b q hb' h1 hlt).elim
      have hnew : ∀ b p, m' b = some p → m b = none → m1 b = some p ∧ (hs j).n ≤ b ∧ b < (hs (j + 1)).n ∧ w.heap.size ≤ p.blk := fun b p h h0 => by
        have h1 : m1 b = some p := by
          have h : (match m b with | some p => some p | none => m1 b) = some p := h
          rw [h0] at h; exact h
        have hl0 : lim m (hs j).n b = none := by
          unfold lim
          split
          · exact h0
          · rfl
        refine ⟨h1, hgo.newId b p h1 hl0, hrel1.id_lt h1, ?_⟩
        rcases hgo.fresh b p h1 hl0 with h2 | ⟨c', q, h2, _, h3⟩
        · exact h2
        · exact absurd (lim_some h2).1 (Nat.not_lt.2 h3)
      have hcase : ∀ b p, m' b = some p → m b = some p ∨ (m b = none ∧ m1 b = some p ∧ (hs j).n ≤ b ∧ b < (hs (j + 1)).n ∧ w.heap.size ≤ p.blk) := fun b p h => by
        cases hb' : m b with
        | none => exact .inr ⟨rfl, hnew b p h hb'⟩
        | some q => exact .inl (by have h2 := hmm b q hb'; rw [h] at h2; exact h2.symm)
      refine hK _ _ m' ν0 (max ν (j + 1)) (I1.adv T hd0 hT hj hr I1.hν I1.h0 I1.calm0 I1.last hmm (hv.mono hm1) hmut hrest (fun k hk0 hk1 => ?_) (I1.go.grown hgr hmm fun b p h h0 => ?_) fun b p h => ?_)
      · have hold := (I1.relk k hk0 hk1).grown hgr
        rcases Nat.lt_or_ge j k with hjk | hjk
        · -- the new blocks are there
          have hqk : Quiet (hs (j + 1)) (hs k) := T.calms hcd hjk (by have := I1.hν; omega) fun k' ok hk' a b => hcalm k' ok hk' (by omega) (by omega)
          have hlk : PM.le (lim m (hs k).n) (lim m' (hs k).n) := lim_mono hmm (Nat.le_refl _)
          have hlk1 : PM.le m1 (lim m' (hs k).n) := hm1.trans (lim_mono (.refl _) hqk.n)
          refine ⟨fun b p hbm => ?_, fun b c' p q hne hbm hcm ab ac => ?_⟩
          · obtain ⟨h1, h2⟩ := lim_some hbm
            rcases hcase b p h2 with h3 | ⟨h3, h4, h5, h6, _⟩
            · obtain ⟨ob, r, g1, g2, g3⟩ := hold.obj b p (lim_of h1 h3)
              exact ⟨ob, r, g1, g2, g3.mono hlk⟩
            · obtain ⟨ob, r, g1, g2, g3⟩ := hrel1.obj b p h4
              exact ⟨ob, r, (hqk.get b h6).trans g1, g2, g3.mono hlk1⟩
          · obtain ⟨h1, h2⟩ := lim_some hbm
            obtain ⟨h1', h2'⟩ := lim_some hcm
            rcases hcase b p h2 with h3 | ⟨h3, h4, h5, h6, h7⟩
            · rcases hcase c' q h2' with h3' | ⟨h3', h4', h5', h6', h7'⟩
              · exact hold.inj b c' p q hne (lim_of h1 h3) (lim_of h1' h3') ab ac
              · have := (I1.rel T hcd).blk_lt h3
                omega
            · rcases hcase c' q h2' with h3' | ⟨h3', h4', h5', h6', h7'⟩
              · have := (I1.rel T hcd).blk_lt h3'
                omega
              · rw [hqk.get b h6] at ab
                rw [hqk.get c' h6'] at ac
                exact hrel1.inj b c' p q hne h4 h4' ab ac
        · have e : lim m' (hs k).n = lim m (hs k).n := by
            funext b
            unfold lim
            split
            · next hlt =>
              cases hb' : m b with
              | some q => exact hmm b q hb'
              | none =>
                cases hb2 : m' b with
                | none => rfl
                | some p =>
                  have h1 := (hnew b p hb2 hb').2.1
                  have h2 := T.mono hd0 (i := k) (j := j) hjk (by omega)
                  omega
            · rfl
          rw [e]; exact hold
      · obtain ⟨_, h1, _, h2⟩ := hnew b p h h0
        exact ⟨Nat.le_trans (T.mono hd0 (Nat.zero_le j) (by omega)) h1, h2⟩
      · rcases hcase b p h with h1 | ⟨_, _, h1, h2, _⟩
        · exact .inl h1
        · exact .inr ⟨h1, h2⟩
    · rw [hwant _ hg]
      simp only [Bool.false_eq_true, if_false]
      exact ⟨fun f _ => hF.fn f, hK _ _ m ν0 _ (I1.adv T hd0 hT hj hr I1.hν I1.h0 I1.calm0 I1.last (.refl m) (by rw [hv]; exact VR.undef) hmut hrest I1.relk I1.go fun b p h => .inl h)⟩
  · -- it may turn what is there
    have hle : ν ≤ j := by
      rcases Nat.lt_or_ge j ν with h | h
      · have := I.turned j o hj h hcl
        rw [ready_un hr] at this; cases this
      · exact h
    have I1 := I.shift T hcd (ν' := j) hle (by omega) (I.calm_to hM hj hr (by omega))
    have hmut : ∀ (k : Nat) (ok : Oper), ops[k]? = some ok → k < j + 1 → opCls P c ok = 2 → k = j ∨ listed.getD k false = true := fun k ok hk hlt h2 => by
      rcases Nat.lt_or_ge k j with h | h
      · exact .inr (I1.turned k ok hk h h2)
      · exact .inl (by omega)
    have hrest : ∀ (k : Nat) (ok : Oper), ops[k]? = some ok → j + 1 ≤ k → opCls P c ok ≠ 0 → k ≠ j ∧ listed.getD k false = false := fun k ok hk hge h2 => ⟨by omega, I1.rest k ok hk (by omega) h2⟩
    rcases hst with ⟨hg, hst⟩ | ⟨hg, hv, hh⟩
    · rw [hwant _ hg]
      simp only [if_true]
      refine op_wpIn hF hc hst (fun y hy => (opt_eval hsees (hok j o hj) y hy).mono (lim_le _ _)) (I1.rel T hcd) hb fun x hx v' w' m' hv hrel hgo => ?_
      rw [List.mem_singleton] at hx
      subst hx
      refine hK _ _ m' (j + 1) (j + 1) (I1.adv T hd0 hT hj hr (by omega) (Nat.le_refl _) (fun k ok hk a b => by omega) (.inr ⟨j, o, rfl, hj, hcl⟩) hgo.le ?_ hmut hrest (fun k a b => ?_) (I1.go.trans hgo) fun b p h => ?_)
      · exact hv.mono (le_lim (.refl m') fun b p h => hrel.id_lt h)
      · have : k = j + 1 := by omega
        subst this
        have e : lim m' (hs (j + 1)).n = m' := by
          funext b
          unfold lim
          split
          · rfl
          · cases hb' : m' b with
            | none => rfl
            | some p => have := hrel.id_lt hb'; exact absurd this (by assumption)
        rw [e]; exact hrel
      · cases hbm : m b with
        | some q => exact .inl (by have h2 := hgo.le b q hbm; rw [h] at h2; exact h2.symm)
        | none => exact .inr ⟨hgo.newId b p h hbm, hrel.id_lt h⟩
    · rw [hwant _ hg]
      simp only [Bool.false_eq_true, if_false]
      refine ⟨fun f _ => hF.fn f, hK _ _ m (j + 1) (j + 1) (I1.adv T hd0 hT hj hr (by omega) (Nat.le_refl _) (fun k ok hk a b => by omega) (.inr ⟨j, o, rfl, hj, hcl⟩) (.refl m) (by rw [hv]; exact VR.undef) hmut hrest (fun k a b => ?_) (by rw [hh]; exact I1.go) fun b p h => .inl h)⟩
      have : k = j + 1 := by omega
      subst this
      rw [hh]
      exact I1.relk j I1.h0 (Nat.le_refl _)
end
end Go.Gh
