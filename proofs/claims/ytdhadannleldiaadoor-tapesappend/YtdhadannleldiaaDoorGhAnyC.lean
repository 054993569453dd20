/- The ghost machine: regions whose order is drawn: each order comes to the same. -/
import Derived.Test.YtdhadannleldiaaDoorGhAny
namespace Go.Gh
open Go.RowKit
set_option linter.unusedVariables false
set_option linter.unusedSimpArgs false

section
variable {P : Program} {base : Nat} {m : PM} {w : World} {d c : Nat} {call : Handle} {ops : Array Oper} {as : Nat → GA} {hs : Nat → GH} {vs : Nat → Value} {m0 : PM} {w0 : World} {act0 : Act} {listed : Array Bool} {act : Act} {ν0 ν : Nat}

theorem opt_eval {m : PM} {o : Oper} {a : GA} {act : Act} (hG : GlobOk m) (h : ∀ t ∈ o.looksAt ops, OptVR m a[t]? act.tmps[t]?) (hok : opOk o = true) : ∀ y ∈ o.op.operands.toList, VR m (a.eval y) (act.eval y) := by
  intro y hy
  have hy' := List.all_eq_true.1 hok y hy
  cases y with
  | tmp t =>
    have ht := h t (List.mem_append_left _ (List.mem_filterMap.2 ⟨.tmp t, hy, rfl⟩))
    simp only [GA.eval, Act.eval]
    rw [List.getD_eq_getElem?_getD, Array.getD_eq_getD_getElem?]
    cases hx : a[t]? with
    | none =>
      rw [hx] at ht
      cases hz : act.tmps[t]? with
      | none => exact VR.undef
      | some _ => rw [hz] at ht; exact ht.elim
    | some u =>
      rw [hx] at ht
      cases hz : act.tmps[t]? with
      | none => rw [hz] at ht; exact ht.elim
      | some u' => rw [hz] at ht; exact ht
  | const v => exact closed_VR hy'
  | global g =>
    obtain ⟨p, h1, h2, h3⟩ := hG g hy'
    have := VR.ptr (m := m) 0 h1
    rw [h2, h3] at this
    exact this
  | func f => exact .func f #[] #[] #[] #[] rfl (fun i hi => absurd hi (by simp)) rfl (fun i hi => absurd hi (by simp))

theorem Go1.grownOf {m' : PM} {H H' : GH} {w' : World} {N : Nat} (h : Go1 base m m' H H' w w') (hm : ∀ b p, m b = some p → b < N) (hl : H'.lo = N) : Grown base w w' :=
  ⟨fun B hB => h.frame B hB fun b p hb _ => by rw [hl]; exact hm b p hb, h.below, h.keep⟩

/-- Where a ready operation that touches memory stands: nothing is turned between ν and it. -/
theorem Inv.calm_to (I : Inv P base d c ops as hs m0 w0 act0 listed act w m ν0 ν) (hM : memOk P c ops = true) {j : Nat} {o : Oper} (hj : ops[j]? = some o) (hr : j ∈ Region.ready .any ops listed) (h0 : opCls P c o ≠ 0) :
    ∀ (k : Nat) (ok : Oper), ops[k]? = some ok → ν ≤ k → k < j → opCls P c ok ≠ 2 := by
  intro k ok hk hge hlt h2
  have hun := I.rest k ok hk hge (by omega)
  rcases memOk_spec hM hk hj hlt with h | h | h | h | ⟨_, h⟩ | ⟨_, h⟩
  rotate_left 5
  · obtain ⟨o', x, e1, e2, _⟩ := looksFree_spec h
    rw [hk] at e1
    injection e1 with e1
    subst e1
    exact lookTmp_cls e2 h2
  · exact h0 h
  · omega
  · exact h.1 h2
  · rw [I.ready_before hr h] at hun; cases hun
  · obtain ⟨t, a, b, e, _⟩ := samePlace_inv h
    unfold opCls at h2
    rw [e] at h2
    have h2 : (1 : Nat) = 2 := h2
    omega

theorem gLookup_quiet {t : TypeId} {x k v : Value} {ok : Bool} {H H' : GH} (hq : Quiet H H') (h : gLookup P t x k ok H = some v) : gLookup P t x k ok H' = some v := by
  have hm : ∀ y, gMap x H = some y → gMap x H' = some y := fun y hy => by
    unfold gMap at hy ⊢
    split at hy
    · next r =>
      split at hy
      · next es cl hg => rw [hq.get _ (GH.get_lt hg), hg]; exact hy
      · cases hy
    · cases hy
  unfold gLookup at h ⊢
  split at h
  case h_2 => cases h
  next kt et hu =>
  split at h
  case isFalse => cases h
  next hk =>
  rw [if_pos hk]
  split at h
  case h_2 => cases h
  next es z hes hz =>
  split at hes
  · injection hes with hes
    subst hes
    simp only [hz]
    exact h
  · obtain ⟨y, hy, rfl⟩ := Option.map_eq_some_iff.1 hes
    have hy' := hm y hy
    have hx : ∃ r, x = .map (some r) := by
      unfold gMap at hy
      split at hy
      · exact ⟨_, rfl⟩
      · cases hy
    obtain ⟨r, rfl⟩ := hx
    simp only [hy', hz, Option.map_some]
    exact h

/-- A look that comes late: it finds what it would have found. -/
theorem Inv.op_late {F : Fence} (hF : FenceOk F) (hc : HOk P call) {n : Nat} {K : Act → World → Prop} {Q : Exit → Act → World → Prop}
    (I : Inv P base d c ops as hs m0 w0 act0 listed act w m ν0 ν) (T : Trace P d call ops.toList ops.toList as hs vs) (hcd : (c = 1 ∧ d = 2) ∨ (c = 2 ∧ d = 1) ∨ (c = d ∧ 3 ≤ d))
    (hT : tmpsOk ops = true) (hb : base ≤ w.heap.size)
    {j : Nat} {o : Oper} (hj : ops[j]? = some o) (hr : j ∈ Region.ready .any ops listed)
    (hops : ∀ y ∈ o.op.operands.toList, VR (lim m (hs j).n) ((as j).eval y) (act.eval y)) (hjν : j < ν) (hclosed : closed (vs j) = true)
    (hst2 : gStep P d call (as j).eval o { hs ν with lo := (hs ν).n } gRet = some [(vs j, { hs ν with lo := (hs ν).n })])
    (hK : ∀ act' w' m' ν0' ν', Inv P base d c ops as hs m0 w0 act0 (listed.setIfInBounds j true) act' w' m' ν0' ν' → K act' w') :
    o.wpIn F n P act w K Q := by
  have hd0 : d ≠ 0 := by omega
  have hRν : Rel P base m { hs ν with lo := (hs ν).n } w := (I.rel T hcd).lo _
  refine op_wpIn hF hc hst2 (fun y hy => (hops y hy).mono (lim_le _ _)) hRν hb fun x hx v' w' m' hv hrel hgo => ?_
  rw [List.mem_singleton] at hx
  subst hx
  have hm' : m' = m := by
    funext b
    cases hb' : m b with
    | some p => exact hgo.le b p hb'
    | none =>
      cases hb2 : m' b with
      | none => rfl
      | some p =>
        have h1 := hgo.newId b p hb2 hb'
        have h2 := hrel.id_lt hb2
        exact absurd h2 (Nat.not_lt.2 h1)
  subst hm'
  have hgr : Grown base w w' := hgo.grownOf (N := (hs ν).n) (fun b p hbm => hRν.id_lt hbm) rfl
  have hv' : VR (lim m' (hs (j + 1)).n) (vs j) v' := by
    have := hv.closed_eq hclosed
    rw [← this]
    exact closed_VR hclosed
  exact hK _ _ m' ν0 ν (I.adv T hd0 hT hj hr I.hν I.h0 I.calm0 I.last (.refl m') hv' (fun k ok hk hlt h3 => .inr (I.turned k ok hk hlt h3))
    (fun k ok hk hge h3 => ⟨by omega, I.rest k ok hk hge h3⟩) (fun k a b => (I.relk k a b).grown hgr) (I.go.grown hgr (.refl m') fun b p h1 h2 => by rw [h1] at h2; cases h2) fun b p h => .inl h)
theorem gLook_quiet {a : GA} {o : Oper} {x : Tmp} {v : Value} {H H' : GH} (hx : lookTmp o = some x) (hq : Quiet H H') (h : gLook P a o H = some v) : gLook P a o H' = some v := by
  rcases lookTmp_op hx with ⟨t, e⟩ | ⟨s, dd, e, hsd⟩
  · unfold gLook at h ⊢
    rw [e] at h ⊢
    simp only at h ⊢
    unfold gLoad at h ⊢
    split at h
    · next b o' =>
      split at h
      · next cs _ _ _ _ hg hu hs => rw [hq.get _ (GH.get_lt hg), hg, hu, hs]; exact h
      · cases h
    · cases h
  · unfold gLook at h ⊢
    rw [e] at h ⊢
    simp only at h ⊢
    generalize a.eval (.tmp x) = u at h ⊢
    unfold gConvert at h ⊢
    split at h
    · next hb =>
      rw [if_pos hb]
      cases u with
      | slice a' n c' =>
        obtain ⟨s', h1, h2⟩ := Option.map_eq_some_iff.1 h
        obtain ⟨l, h3, h4⟩ := Option.bind_eq_some_iff.1 h1
        have h5 : gFirst 1 n (.slice a' n c') H' = some l := by
          unfold gFirst at h3 ⊢
          cases a' with
          | none => exact h3
          | some A =>
            obtain ⟨b, o, sp⟩ := A
            cases sp with
            | some _ => cases h3
            | none =>
              simp only at h3 ⊢
              split at h3
              · next hg => rw [hq.get _ (GH.get_lt hg), hg]; exact h3
              · cases h3
        simp only [h5, Option.bind_some, h4, Option.map_some]
        rw [h2]
      | _ => cases h
    · next hb => rw [if_neg hb]; exact h
/-- A look that nothing between turns. -/
theorem Inv.op_apart {F : Fence} (hF : FenceOk F) (hc : HOk P call) {n : Nat} {K : Act → World → Prop} {Q : Exit → Act → World → Prop}
    (I : Inv P base d c ops as hs m0 w0 act0 listed act w m ν0 ν) (T : Trace P d call ops.toList ops.toList as hs vs) (hcd : (c = 1 ∧ d = 2) ∨ (c = 2 ∧ d = 1) ∨ (c = d ∧ 3 ≤ d))
    (hM : memOk P c ops = true) (hT : tmpsOk ops = true) (hb : base ≤ w.heap.size)
    {j : Nat} {o : Oper} (hj : ops[j]? = some o) (hr : j ∈ Region.ready .any ops listed) (hcl : opCls P c o = 1)
    (hops : ∀ y ∈ o.op.operands.toList, VR (lim m (hs j).n) ((as j).eval y) (act.eval y))
    {i : Nat} {oi : Oper} (hi : ops[i]? = some oi) (hji : j < i) (hiν : i < ν) (h2 : opCls P c oi = 2) (hc3 : 3 ≤ c) (hfr : looksFree ops.toList j = true)
    (hst : gStep P d call (as j).eval o (hs j) gRet = some [(vs j, hs (j + 1))]) (hwj : gWanted ops.toList (as j) o = some true)
    (hK : ∀ act' w' m' ν0' ν', Inv P base d c ops as hs m0 w0 act0 (listed.setIfInBounds j true) act' w' m' ν0' ν' → K act' w') :
    o.wpIn F n P act w K Q := by
  obtain ⟨o', x, e1, e2, e3⟩ := looksFree_spec hfr
  rw [hj] at e1
  injection e1 with e1
  subst e1
  have hcd' : c = d := by omega
  have hpair : ∀ k (ok : Oper), ops[k]? = some ok → k < ν → opCls P c ok = 2 → loosePair P d ops.toList k j = true := fun k ok hk hkν h5 => by
    unfold loosePair
    rw [Array.getElem?_toList, hk, ← hcd', hfr, Array.toArray_toList]
    simp only [h5, beq_self_eq_true, Bool.true_and]
    cases hbf : ((Region.before ops).getD k 0).testBit j with
    | false => rfl
    | true =>
      have := I.down k j (I.turned k ok hk hkν h5) hbf
      rw [ready_un hr] at this; cases this
  have hclosed : closed (vs j) = true := by
    refine T.clos (by omega) j o (by rw [Array.getElem?_toList]; exact hj) hwj ?_
    rw [Nat.sub_self, Nat.zero_add]
    unfold looseLook
    refine List.any_eq_true.2 ⟨i, List.mem_range.2 (by rw [Array.length_toList]; exact (Array.getElem?_eq_some_iff.1 hi).1), ?_⟩
    rw [hpair i oi hi hiν h2, decide_eq_true hji]; rfl
  have hstand : ∀ k, j ≤ k → k ≤ ν → (as k)[x]? = (as j)[x]? := fun k h1 h3 => T.same h1 (by have := I.hν; omega) fun l ol hl h5 _ hd => e3 l ol h5 hl hd
  have hsame : ∀ k, j ≤ k → k ≤ ν → ∀ H, gLook P (as k) o H = gLook P (as j) o H := fun k h1 h3 H => by
    have hev : (as k).eval (.tmp x) = (as j).eval (.tmp x) := by
      simp only [GA.eval, List.getD_eq_getElem?_getD]
      rw [hstand k h1 h3]
    unfold gLook
    rcases lookTmp_op e2 with ⟨t, e⟩ | ⟨s, dd, e, hsd⟩ <;> · rw [e]; simp only [hev]
  have hlook : gLook P (as j) o (hs j) = some (vs j) ∧ hs (j + 1) = hs j := by
    unfold gStep at hst
    unfold gLook
    rcases lookTmp_op e2 with ⟨t, e⟩ | ⟨s, dd, e, hsd⟩
    · rw [e] at hst ⊢
      obtain ⟨v, hv, e⟩ := onV_ret hst
      injection e with e _
      injection e with e1 e2
      rw [e1]
      exact ⟨hv, e2⟩
    · rw [e] at hst ⊢
      simp only [isSelf_ne hsd, Bool.false_eq_true, if_false] at hst
      obtain ⟨v, hv, e⟩ := onV_ret hst
      injection e with e _
      injection e with e1 e2
      rw [e1]
      exact ⟨hv, e2⟩
  have hall : ∀ k, j ≤ k → k ≤ ν → gLook P (as j) o (hs k) = some (vs j) := by
    intro k
    induction k with
    | zero => intro h1 _; have : j = 0 := by omega
              subst this; exact hlook.1
    | succ k ih =>
      intro h1 h3
      rcases Nat.lt_or_ge j (k + 1) with h4 | h4
      · have hk' := ih (by omega) (by omega)
        have hks : k < ops.size := by have := I.hν; omega
        have hk := Array.getElem?_eq_getElem hks
        by_cases h5 : opCls P c ops[k] = 2
        · have hjk : j < k := by
            rcases Nat.lt_or_ge j k with h | h
            · exact h
            · have : k = j := by omega
              subst this
              rw [hj] at hk; injection hk with hk
              rw [← hk] at h5; omega
          obtain ⟨_, hstk⟩ := T.step k _ (by rw [Array.getElem?_toList]; exact hk)
          rcases hstk with ⟨hg, _⟩ | ⟨_, _, hh⟩
          · have hin : o ∈ looseAt P d ops.toList k := List.mem_filterMap.2 ⟨j, List.mem_filter.2 ⟨List.mem_range.2 hjk, hpair k _ hk (by omega) h5⟩, by rw [Array.getElem?_toList]; exact hj⟩
            have := T.apart (by omega) k _ (by rw [Array.getElem?_toList]; exact hk) hg o (by rw [Nat.sub_self, Nat.zero_add]; exact hin)
            rw [hsame k (by omega) (by omega), hsame k (by omega) (by omega)] at this
            obtain ⟨u, v, g1, g2, g3⟩ := this
            obtain ⟨g4, _⟩ := sameV_eq g3
            rw [hk'] at g1
            injection g1 with g1
            rw [g2, g1, g4]
          · rw [hh]; exact hk'
        · exact gLook_quiet e2 (T.calm hcd hk h5) hk'
      · have : j = k + 1 := by omega
        subst this; exact hlook.1
  have hst2 : gStep P d call (as j).eval o { hs ν with lo := (hs ν).n } gRet = some [(vs j, { hs ν with lo := (hs ν).n })] := by
    have hl := hall ν (by omega) (Nat.le_refl _)
    have hl : gLook P (as j) o { hs ν with lo := (hs ν).n } = some (vs j) := hl
    unfold gLook at hl
    unfold gStep
    rcases lookTmp_op e2 with ⟨t, e⟩ | ⟨s, dd, e, hsd⟩
    · rw [e] at hl ⊢
      simp only at hl ⊢
      rw [hl]
      rfl
    · rw [e] at hl ⊢
      simp only [isSelf_ne hsd, Bool.false_eq_true, if_false] at hl ⊢
      rw [hl]
      rfl
  exact I.op_late hF hc T hcd hT hb hj hr hops (by omega) hclosed hst2 hK
/-- A lookup that comes after the entry at its key. -/
theorem Inv.op_loose {F : Fence} (hF : FenceOk F) (hc : HOk P call) {n : Nat} {K : Act → World → Prop} {Q : Exit → Act → World → Prop}
    (I : Inv P base d c ops as hs m0 w0 act0 listed act w m ν0 ν) (T : Trace P d call ops.toList ops.toList as hs vs) (hcd : (c = 1 ∧ d = 2) ∨ (c = 2 ∧ d = 1) ∨ (c = d ∧ 3 ≤ d))
    (hM : memOk P c ops = true) (hT : tmpsOk ops = true) (hb : base ≤ w.heap.size)
    {j : Nat} {o : Oper} (hj : ops[j]? = some o) (hr : j ∈ Region.ready .any ops listed) (hcl : opCls P c o = 1)
    (hops : ∀ y ∈ o.op.operands.toList, VR (lim m (hs j).n) ((as j).eval y) (act.eval y))
    {i : Nat} {oi : Oper} (hi : ops[i]? = some oi) (hji : j < i) (hiν : i < ν) (h2 : opCls P c oi = 2) (hsp0 : samePlace o oi = true)
    (hst : gStep P d call (as j).eval o (hs j) gRet = some [(vs j, hs (j + 1))])
    (hK : ∀ act' w' m' ν0' ν', Inv P base d c ops as hs m0 w0 act0 (listed.setIfInBounds j true) act' w' m' ν0' ν' → K act' w') :
    o.wpIn F n P act w K Q := by
  have hjs : j < ops.size := (Array.getElem?_eq_some_iff.1 hj).1
  have hd0 : d ≠ 0 := by omega
  -- each later one that turns something is an entry at the same key
  have hplace : ∀ (k : Nat) (ok : Oper), ops[k]? = some ok → j < k → k < ν → opCls P c ok = 2 → 3 ≤ c ∧ samePlace o ok = true := fun k ok hk h1 h3 h4 => by
    rcases memOk_spec hM hj hk h1 with h5 | h5 | h5 | h5 | h5 | h5
    · omega
    · omega
    · exact absurd h4 h5.2
    · have := I.down k j (I.turned k ok hk h3 h4) h5
      rw [ready_un hr] at this; cases this
    · exact h5
    · obtain ⟨o', x, e1, e2, _⟩ := looksFree_spec h5.2
      rw [hj] at e1
      injection e1 with e1
      subst e1
      obtain ⟨t, a, b, e3, _⟩ := samePlace_inv hsp0
      rcases lookTmp_op e2 with ⟨t', e⟩ | ⟨s, dd, e, hsd⟩ <;> (rw [e] at e3; cases e3)
  obtain ⟨hc3, hsp⟩ := hplace i oi hi hji hiν h2
  obtain ⟨t, ta, tb, eo, _, _⟩ := samePlace_inv hsp
  have hcd' : c = d := by omega
  have hlook : gLookup P t ((as j).eval (.tmp ta)) ((as j).eval (.tmp tb)) false (hs j) = some (vs j) ∧ hs (j + 1) = hs j := by
    unfold gStep at hst
    rw [eo] at hst
    obtain ⟨v, hv, e⟩ := onV_ret hst
    injection e with e _
    injection e with e1 e2
    rw [e1]
    exact ⟨hv, e2⟩
  -- the operands stand
  have hstand : ∀ k, j ≤ k → k ≤ ν → (∀ x, x = ta ∨ x = tb → ∀ (ok : Oper) (l : Nat), ops[l]? = some ok → j ≤ l → l < k → True) → True := fun _ _ _ _ => trivial
  have hsame : ∀ (k : Nat) (ok : Oper), ops[k]? = some ok → j < k → k < ν → opCls P c ok = 2 → ∀ x, x = ta ∨ x = tb → (as k)[x]? = (as j)[x]? := fun k ok hk h1 h3 h4 x hx => by
    refine T.same (Nat.le_of_lt h1) (Nat.le_of_lt (Array.getElem?_eq_some_iff.1 hk).1) fun l ol hl h5 h6 hdst => ?_
    obtain ⟨_, hsk⟩ := hplace k ok hk h1 h3 h4
    obtain ⟨t', ta', tb', e1, e2, _⟩ := samePlace_inv hsk
    rw [eo] at e1
    injection e1 with e1 e3 e4
    injection e3 with e3
    injection e4 with e4
    subst e3; subst e4
    have hin : x ∈ opTmps ops ok := by
      unfold opTmps
      refine List.mem_append_right _ (List.mem_append_left _ (List.mem_filterMap.2 ⟨.tmp x, ?_, rfl⟩))
      rw [e2]
      rcases hx with rfl | rfl <;> simp [Op.operands]
    have hinj : x ∈ opTmps ops o := by
      unfold opTmps
      refine List.mem_append_right _ (List.mem_append_left _ (List.mem_filterMap.2 ⟨.tmp x, ?_, rfl⟩))
      rw [eo]
      rcases hx with rfl | rfl <;> simp [Op.operands]
    have hlk : listed.getD l false = true := by
      rcases tmpsOk_spec hT hl hk h6 with h7 | ⟨h7, _⟩
      · exact I.down k l (I.turned k ok hk h3 h4) h7
      · exact absurd hin (h7 x hdst)
    rcases Nat.lt_or_ge j l with h7 | h7
    · rcases tmpsOk_spec hT hj hl h7 with h8 | ⟨_, h8⟩
      · have := I.down l j hlk h8
        rw [ready_un hr] at this; cases this
      · exact absurd hinj (h8 x hdst)
    · have : l = j := by omega
      subst this
      rw [ready_un hr] at hlk; cases hlk
  have hev : ∀ (k : Nat) (ok : Oper), ops[k]? = some ok → j < k → k < ν → opCls P c ok = 2 → (as k).eval (.tmp ta) = (as j).eval (.tmp ta) ∧ (as k).eval (.tmp tb) = (as j).eval (.tmp tb) := fun k ok hk h1 h3 h4 => by
    simp only [GA.eval, List.getD_eq_getElem?_getD]
    rw [hsame k ok hk h1 h3 h4 ta (.inl rfl), hsame k ok hk h1 h3 h4 tb (.inr rfl)]
    exact ⟨rfl, rfl⟩
  -- an entry at the same key: what is looked up stays
  have hentry : ∀ (k : Nat) (ok : Oper), ops[k]? = some ok → j < k → k < ν → opCls P c ok = 2 →
      ∃ a n, gLookup P t ((as j).eval (.tmp ta)) ((as j).eval (.tmp tb)) false (hs k) = some (.int a n) ∧ gLookup P t ((as j).eval (.tmp ta)) ((as j).eval (.tmp tb)) false (hs (k + 1)) = some (.int a n) := fun k ok hk h1 h3 h4 => by
    obtain ⟨_, hsk⟩ := hplace k ok hk h1 h3 h4
    obtain ⟨t', ta', tb', e1, e2, e3⟩ := samePlace_inv hsk
    rw [eo] at e1
    injection e1 with e1 e4 e5
    injection e4 with e4
    injection e5 with e5
    subst e1; subst e4; subst e5
    obtain ⟨_, hstk⟩ := T.step k ok (by rw [Array.getElem?_toList]; exact hk)
    rcases hstk with ⟨_, hstk⟩ | ⟨hg, _⟩
    · unfold gStep at hstk
      rw [e2] at hstk
      simp only at hstk
      rw [if_pos (by simp; omega)] at hstk
      obtain ⟨v1, H1, hv, e⟩ := onVH_ret hstk
      injection e with e _
      injection e with _ e
      subst e
      obtain ⟨x1, x2⟩ := hev k ok hk h1 h3 h4
      rw [x1, x2] at hv
      exact (gMapEntryQ_some hv).2
    · unfold gWanted at hg
      rw [e3] at hg
      cases hg
  have hall : ∀ k, j ≤ k → k ≤ ν → gLookup P t ((as j).eval (.tmp ta)) ((as j).eval (.tmp tb)) false (hs k) = some (vs j) := by
    intro k
    induction k with
    | zero => intro h1 _; have : j = 0 := by omega
              subst this; exact hlook.1
    | succ k ih =>
      intro h1 h3
      rcases Nat.lt_or_ge j (k + 1) with h4 | h4
      · have hk' := ih (by omega) (by omega)
        have hks : k < ops.size := by have := I.hν; omega
        have hk := Array.getElem?_eq_getElem hks
        by_cases h5 : opCls P c ops[k] = 2
        · have hjk : j < k := by
            rcases Nat.lt_or_ge j k with h | h
            · exact h
            · have : k = j := by omega
              subst this
              rw [hj] at hk; injection hk with hk
              rw [← hk] at h5; omega
          obtain ⟨a, n, g1, g2⟩ := hentry k _ hk hjk (by omega) h5
          rw [g1] at hk'
          rw [g2]; exact hk'
        · exact gLookup_quiet (T.calm hcd hk h5) hk'
      · have : j = k + 1 := by omega
        subst this; exact hlook.1
  have hclosed : closed (vs j) = true := by
    obtain ⟨a, n, g1, _⟩ := hentry i oi hi hji hiν h2
    have := hall i (by omega) (by omega)
    rw [g1] at this
    injection this with this
    rw [← this]; rfl
  -- at the world that is
  have hst2 : gStep P d call (as j).eval o { hs ν with lo := (hs ν).n } gRet = some [(vs j, { hs ν with lo := (hs ν).n })] := by
    unfold gStep
    rw [eo]
    have e : gLookup P t ((as j).eval (.tmp ta)) ((as j).eval (.tmp tb)) false { hs ν with lo := (hs ν).n } = some (vs j) := hall ν (by omega) (Nat.le_refl _)
    simp only [e]
    rfl
  exact I.op_late hF hc T hcd hT hb hj hr hops (by omega) hclosed hst2 hK

theorem Inv.op {F : Fence} (hF : FenceOk F) (hc : HOk P call) {n : Nat} {K : Act → World → Prop} {Q : Exit → Act → World → Prop}
    (I : Inv P base d c ops as hs m0 w0 act0 listed act w m ν0 ν) (T : Trace P d call ops.toList ops.toList as hs vs) (hcd : (c = 1 ∧ d = 2) ∨ (c = 2 ∧ d = 1) ∨ (c = d ∧ 3 ≤ d))
    (hM : memOk P c ops = true) (hT : tmpsOk ops = true) (hok : ∀ (j : Nat) (o : Oper), ops[j]? = some o → opOk o = true) (hb : base ≤ w.heap.size)
    {j : Nat} (hr : j ∈ Region.ready .any ops listed)
    (hK : ∀ act' w' m' ν0' ν', Inv P base d c ops as hs m0 w0 act0 (listed.setIfInBounds j true) act' w' m' ν0' ν' → K act' w') :
    wpOpIn F n P ops Q j K act w := by
  obtain ⟨_, o, hj, _⟩ := mem_ready.1 hr
  have hd0 : d ≠ 0 := by omega
  have hjs : j < ops.size := (Array.getElem?_eq_some_iff.1 hj).1
  have hsees := fun t ht => I.sees hT hj hr (t := t) ht
  obtain ⟨has, hst⟩ := T.step j o (by rw [Array.getElem?_toList]; exact hj)
  have hwant : ∀ b, gWanted ops.toList (as j) o = some b → Region.wanted o (yielded ops act.tmps) = b := fun b hg =>
    wanted_eq (m := lim m (hs j).n) hg fun g want t hgd hdst v hv => by
      have ht : t ∈ o.looksAt ops := List.mem_append_right _ (by rw [hgd]; simp [hdst])
      have := hsees t ht
      rw [hv] at this
      cases hy : act.tmps[t]? with
      | none => rw [hy] at this; exact this.elim
      | some v' => rw [hy] at this; exact ⟨v', rfl, this⟩
  unfold wpOpIn
  rw [hj]
  simp only
  have hjN : ∀ b p, m b = some p → (hs j).n ≤ b → b < (hs (j + 1)).n → False := fun b p hbm h1 h2 => by
    rcases I.own b p hbm with h | ⟨k, ok, hk, hl, h3, h4⟩
    · have := I.hm0 b p h
      have := T.mono hd0 (Nat.zero_le j) (by omega)
      omega
    · have hks : k < ops.size := (Array.getElem?_eq_some_iff.1 hk).1
      rcases Nat.lt_trichotomy k j with hlt | heq | hgt
      · have := T.mono hd0 (i := k + 1) (j := j) (by omega) (by omega); omega
      · subst heq; rw [ready_un hr] at hl; cases hl
      · have := T.mono hd0 (i := j + 1) (j := k) (by omega) (by omega); omega
  rcases cls_le (P := P) c (by omega) o with hcl | hcl | hcl
  · -- no memory
    have hmut : ∀ (k : Nat) (ok : Oper), ops[k]? = some ok → k < ν → opCls P c ok = 2 → k = j ∨ listed.getD k false = true := fun k ok hk hlt h2 => .inr (I.turned k ok hk hlt h2)
    have hrest : ∀ (k : Nat) (ok : Oper), ops[k]? = some ok → ν ≤ k → opCls P c ok ≠ 0 → k ≠ j ∧ listed.getD k false = false := fun k ok hk hge h2 =>
      ⟨fun e => by subst e; rw [hj] at hk; injection hk with hk; subst hk; exact h2 hcl, I.rest k ok hk hge h2⟩
    rcases hst with ⟨hg, hst⟩ | ⟨hg, hv, hh⟩
    · rw [hwant _ hg]
      simp only [if_true]
      obtain ⟨v, e, hany⟩ := step0 (c := c) (by omega) hcl hst
      injection e with e _
      injection e with e1 e2
      have hdead := hany (deadH (hs j).n)
      have hRd := (I.rel T hcd).deadened (hs j).n fun g hg => by obtain ⟨p, h1, _⟩ := I.glb T hd0 (Nat.le_of_lt hjs) g hg; exact (lim_some h1).1
      refine op_wpIn hF hc hdead (opt_eval (I.glb T hd0 (Nat.le_of_lt hjs)) hsees (hok j o hj)) hRd hb fun x hx v' w' m' hv hrel hgo => ?_
      rw [List.mem_singleton] at hx
      subst hx
      have hm' : m' = lim m (hs j).n := by
        funext b
        cases hb' : lim m (hs j).n b with
        | some p => exact hgo.le b p hb'
        | none =>
          cases hb2 : m' b with
          | none => rfl
          | some p =>
            have h1 := hgo.newId b p hb2 hb'
            have h2 := hrel.id_lt hb2
            exact absurd h2 (Nat.not_lt.2 h1)
      subst hm'
      have hgr : Grown base w w' := hgo.grownOf (N := (hs j).n) (fun b p hbm => (lim_some hbm).1) rfl
      refine hK _ _ m ν0 ν (I.adv T hd0 hT hj hr I.hν I.h0 I.calm0 I.last (.refl m) ?_ hmut hrest (fun k a b => (I.relk k a b).grown hgr) (I.go.grown hgr (.refl m) fun b p h1 h2 => by rw [h1] at h2; cases h2) fun b p h => .inl h)
      rw [← e1] at hv
      exact hv.mono (lim_mono (.refl m) (T.grows hd0 hjs))
    · rw [hwant _ hg]
      simp only [Bool.false_eq_true, if_false]
      exact ⟨fun f _ => hF.fn f, hK _ _ m ν0 ν (I.adv T hd0 hT hj hr I.hν I.h0 I.calm0 I.last (.refl m) (by rw [hv]; exact VR.undef) hmut hrest I.relk I.go fun b p h => .inl h)⟩
  · -- it looks, or lays new blocks
    by_cases hloose : ∃ (i : Nat) (oi : Oper), ops[i]? = some oi ∧ j < i ∧ i < ν ∧ opCls P c oi = 2
    · obtain ⟨i, oi, hi, hji, hiν, h2⟩ := hloose
      rcases hst with ⟨hg, hst⟩ | ⟨hg, hv, hh⟩
      · rw [hwant _ hg]
        simp only [if_true]
        rcases memOk_spec hM hj hi hji with h5 | h5 | h5 | h5 | h5 | h5
        · omega
        · omega
        · exact absurd h2 h5.2
        · have := I.down i j (I.turned i oi hi hiν h2) h5
          rw [ready_un hr] at this; cases this
        · exact I.op_loose hF hc T hcd hM hT hb hj hr hcl (opt_eval (I.glb T hd0 (Nat.le_of_lt hjs)) hsees (hok j o hj)) hi hji hiν h2 h5.2 hst hK
        · exact I.op_apart hF hc T hcd hM hT hb hj hr hcl (opt_eval (I.glb T hd0 (Nat.le_of_lt hjs)) hsees (hok j o hj)) hi hji hiν h2 h5.1 h5.2 hst hg hK
      · rw [hwant _ hg]
        simp only [Bool.false_eq_true, if_false]
        exact ⟨fun f _ => hF.fn f, hK _ _ m ν0 ν (I.adv T hd0 hT hj hr I.hν I.h0 I.calm0 I.last (.refl m) (by rw [hv]; exact VR.undef) (fun k ok hk hlt h3 => .inr (I.turned k ok hk hlt h3))
          (fun k ok hk hge h3 => ⟨by omega, I.rest k ok hk hge h3⟩) I.relk I.go fun b p h => .inl h)⟩
    have hcalm0 : ∀ (k : Nat) (ok : Oper), ops[k]? = some ok → j < k → k < ν → opCls P c ok ≠ 2 := fun k ok hk h1 h3 h4 => hloose ⟨k, ok, hk, h1, h3, h4⟩
    have I1 := I.shift T hcd (ν' := max ν (j + 1)) (by omega) (by have := I.hν; omega) fun k ok hk hge hlt h2 => by
      rcases Nat.lt_or_ge k j with h | h
      · exact I.calm_to hM hj hr (by omega) k ok hk hge h h2
      · have : k = j := by omega
        subst this
        rw [hj] at hk; injection hk with hk; subst hk; omega
    have hcalm : ∀ (k : Nat) (ok : Oper), ops[k]? = some ok → j ≤ k → k < max ν (j + 1) → opCls P c ok ≠ 2 := fun k ok hk hge hlt h2 => by
      rcases Nat.lt_or_ge j k with h | h
      · exact hcalm0 k ok hk h (by omega) h2
      · have : k = j := by omega
        subst this
        rw [hj] at hk; injection hk with hk; subst hk; omega
    have hmut : ∀ (k : Nat) (ok : Oper), ops[k]? = some ok → k < max ν (j + 1) → opCls P c ok = 2 → k = j ∨ listed.getD k false = true := fun k ok hk hlt h2 => .inr (I1.turned k ok hk hlt h2)
    have hrest : ∀ (k : Nat) (ok : Oper), ops[k]? = some ok → max ν (j + 1) ≤ k → opCls P c ok ≠ 0 → k ≠ j ∧ listed.getD k false = false := fun k ok hk hge h2 => ⟨by omega, I1.rest k ok hk hge h2⟩
    rcases hst with ⟨hg, hst⟩ | ⟨hg, hv, hh⟩
    · rw [hwant _ hg]
      simp only [if_true]
      obtain ⟨hq, hst2⟩ := step1 hcd hcl hst
      have hq1 : Quiet (hs j) (hs (max ν (j + 1))) := T.calms hcd (by omega) I1.hν hcalm
      have hq2 : Quiet (hs (j + 1)) (hs (max ν (j + 1))) := T.calms hcd (by omega) I1.hν fun k ok hk hge hlt => hcalm k ok hk (by omega) hlt
      have hj0 : ν0 ≤ j := by
        rcases I.last with h | ⟨i, oi, h, hi, h2⟩
        · omega
        · rcases Nat.lt_or_ge j ν0 with hlt | hge
          · have hli : listed.getD i false = true := I1.turned i oi hi (by have := I1.h0; omega) h2
            rcases Nat.lt_or_ge j i with hji | hji
            · exact absurd h2 (hcalm0 i oi hi hji (by have := I.h0; omega))
            · have : i = j := by omega
              subst this
              rw [hj] at hi; injection hi with hi; subst hi; omega
          · exact hge
      have hRj : Rel P base (lim m (hs j).n) { hs j with lo := (hs j).n } w := (I1.relk j hj0 (by omega)).lo _
      refine op_wpIn hF hc hst2 (opt_eval (I.glb T hd0 (Nat.le_of_lt hjs)) hsees (hok j o hj)) hRj hb fun x hx v' w' m1 hv hrel hgo => ?_
      rw [List.mem_singleton] at hx
      subst hx
      have hgr : Grown base w w' := hgo.grownOf (N := (hs j).n) (fun b p hbm => (lim_some hbm).1) rfl
      have hrel1 : Rel P base m1 (hs (j + 1)) w' := hrel.lo (hs (j + 1)).lo
      -- the pins of both
      let m' : PM := fun b => match m b with | some p => some p | none => m1 b
      have hmm : PM.le m m' := fun b p h => by show (match m b with | some p => some p | none => m1 b) = some p; rw [h]
      have hm1 : PM.le m1 (lim m' (hs (j + 1)).n) := fun b p h => by
        have hlt := hrel1.id_lt h
        refine lim_of hlt ?_
        show (match m b with | some p => some p | none => m1 b) = some p
        cases hb' : m b with
        | none => exact h
        | some q =>
          rcases Nat.lt_or_ge b (hs j).n with h1 | h1
          · have := hgo.le b q (lim_of h1 hb')
            rw [h] at this
            exact this.symm
          · exact (hjN b q hb' h1 hlt).elim
      have hnew : ∀ b p, m' b = some p → m b = none → m1 b = some p ∧ (hs j).n ≤ b ∧ b < (hs (j + 1)).n ∧ w.heap.size ≤ p.blk := fun b p h h0 => by
        have h1 : m1 b = some p := by
          have h : (match m b with | some p => some p | none => m1 b) = some p := h
          rw [h0] at h; exact h
        have hl0 : lim m (hs j).n b = none := by
          unfold lim
          split
          · exact h0
          · rfl
        refine ⟨h1, hgo.newId b p h1 hl0, hrel1.id_lt h1, ?_⟩
        rcases hgo.fresh b p h1 hl0 with h2 | ⟨c', q, h2, _, h3⟩
        · exact h2
        · exact absurd (lim_some h2).1 (Nat.not_lt.2 h3)
      have hcase : ∀ b p, m' b = some p → m b = some p ∨ (m b = none ∧ m1 b = some p ∧ (hs j).n ≤ b ∧ b < (hs (j + 1)).n ∧ w.heap.size ≤ p.blk) := fun b p h => by
        cases hb' : m b with
        | none => exact .inr ⟨rfl, hnew b p h hb'⟩
        | some q => exact .inl (by have h2 := hmm b q hb'; rw [h] at h2; exact h2.symm)
      refine hK _ _ m' ν0 (max ν (j + 1)) (I1.adv T hd0 hT hj hr I1.hν I1.h0 I1.calm0 I1.last hmm (hv.mono hm1) hmut hrest (fun k hk0 hk1 => ?_) (I1.go.grown hgr hmm fun b p h h0 => ?_) fun b p h => ?_)
      · have hold := (I1.relk k hk0 hk1).grown hgr
        rcases Nat.lt_or_ge j k with hjk | hjk
        · -- the new blocks are there
          have hqk : Quiet (hs (j + 1)) (hs k) := T.calms hcd hjk (by have := I1.hν; omega) fun k' ok hk' a b => hcalm k' ok hk' (by omega) (by omega)
          have hlk : PM.le (lim m (hs k).n) (lim m' (hs k).n) := lim_mono hmm (Nat.le_refl _)
          have hlk1 : PM.le m1 (lim m' (hs k).n) := hm1.trans (lim_mono (.refl _) hqk.n)
          refine ⟨fun b p hbm => ?_, fun b c' p q hne hbm hcm ab ac => ?_, hold.glob.mono hlk⟩
          · obtain ⟨h1, h2⟩ := lim_some hbm
            rcases hcase b p h2 with h3 | ⟨h3, h4, h5, h6, _⟩
            · obtain ⟨ob, r, g1, g2, g3⟩ := hold.obj b p (lim_of h1 h3)
              exact ⟨ob, r, g1, g2, g3.mono hlk⟩
            · obtain ⟨ob, r, g1, g2, g3⟩ := hrel1.obj b p h4
              exact ⟨ob, r, (hqk.get b h6).trans g1, g2, g3.mono hlk1⟩
          · obtain ⟨h1, h2⟩ := lim_some hbm
            obtain ⟨h1', h2'⟩ := lim_some hcm
            rcases hcase b p h2 with h3 | ⟨h3, h4, h5, h6, h7⟩
            · rcases hcase c' q h2' with h3' | ⟨h3', h4', h5', h6', h7'⟩
              · exact hold.inj b c' p q hne (lim_of h1 h3) (lim_of h1' h3') ab ac
              · have := (I1.rel T hcd).blk_lt h3
                omega
            · rcases hcase c' q h2' with h3' | ⟨h3', h4', h5', h6', h7'⟩
              · have := (I1.rel T hcd).blk_lt h3'
                omega
              · rw [hqk.get b h6] at ab
                rw [hqk.get c' h6'] at ac
                exact hrel1.inj b c' p q hne h4 h4' ab ac
        · have e : lim m' (hs k).n = lim m (hs k).n := by
            funext b
            unfold lim
            split
            · next hlt =>
              cases hb' : m b with
              | some q => exact hmm b q hb'
              | none =>
                cases hb2 : m' b with
                | none => rfl
                | some p =>
                  have h1 := (hnew b p hb2 hb').2.1
                  have h2 := T.mono hd0 (i := k) (j := j) hjk (by omega)
                  omega
            · rfl
          rw [e]; exact hold
      · obtain ⟨_, h1, _, h2⟩ := hnew b p h h0
        exact ⟨Nat.le_trans (T.mono hd0 (Nat.zero_le j) (by omega)) h1, h2⟩
      · rcases hcase b p h with h1 | ⟨_, _, h1, h2, _⟩
        · exact .inl h1
        · exact .inr ⟨h1, h2⟩
    · rw [hwant _ hg]
      simp only [Bool.false_eq_true, if_false]
      exact ⟨fun f _ => hF.fn f, hK _ _ m ν0 _ (I1.adv T hd0 hT hj hr I1.hν I1.h0 I1.calm0 I1.last (.refl m) (by rw [hv]; exact VR.undef) hmut hrest I1.relk I1.go fun b p h => .inl h)⟩
  · -- it may turn what is there
    have hle : ν ≤ j := by
      rcases Nat.lt_or_ge j ν with h | h
      · have := I.turned j o hj h hcl
        rw [ready_un hr] at this; cases this
      · exact h
    have I1 := I.shift T hcd (ν' := j) hle (by omega) (I.calm_to hM hj hr (by omega))
    have hmut : ∀ (k : Nat) (ok : Oper), ops[k]? = some ok → k < j + 1 → opCls P c ok = 2 → k = j ∨ listed.getD k false = true := fun k ok hk hlt h2 => by
      rcases Nat.lt_or_ge k j with h | h
      · exact .inr (I1.turned k ok hk h h2)
      · exact .inl (by omega)
    have hrest : ∀ (k : Nat) (ok : Oper), ops[k]? = some ok → j + 1 ≤ k → opCls P c ok ≠ 0 → k ≠ j ∧ listed.getD k false = false := fun k ok hk hge h2 => ⟨by omega, I1.rest k ok hk (by omega) h2⟩
    rcases hst with ⟨hg, hst⟩ | ⟨hg, hv, hh⟩
    · rw [hwant _ hg]
      simp only [if_true]
      refine op_wpIn hF hc hst (fun y hy => (opt_eval (I.glb T hd0 (Nat.le_of_lt hjs)) hsees (hok j o hj) y hy).mono (lim_le _ _)) (I1.rel T hcd) hb fun x hx v' w' m' hv hrel hgo => ?_
      rw [List.mem_singleton] at hx
      subst hx
      refine hK _ _ m' (j + 1) (j + 1) (I1.adv T hd0 hT hj hr (by omega) (Nat.le_refl _) (fun k ok hk a b => by omega) (.inr ⟨j, o, rfl, hj, hcl⟩) hgo.le ?_ hmut hrest (fun k a b => ?_) (I1.go.trans hgo) fun b p h => ?_)
      · exact hv.mono (le_lim (.refl m') fun b p h => hrel.id_lt h)
      · have : k = j + 1 := by omega
        subst this
        have e : lim m' (hs (j + 1)).n = m' := by
          funext b
          unfold lim
          split
          · rfl
          · cases hb' : m' b with
            | none => rfl
            | some p => have := hrel.id_lt hb'; exact absurd this (by assumption)
        rw [e]; exact hrel
      · cases hbm : m b with
        | some q => exact .inl (by have h2 := hgo.le b q hbm; rw [h] at h2; exact h2.symm)
        | none => exact .inr ⟨hgo.newId b p h hbm, hrel.id_lt h⟩
    · rw [hwant _ hg]
      simp only [Bool.false_eq_true, if_false]
      refine ⟨fun f _ => hF.fn f, hK _ _ m (j + 1) (j + 1) (I1.adv T hd0 hT hj hr (by omega) (Nat.le_refl _) (fun k ok hk a b => by omega) (.inr ⟨j, o, rfl, hj, hcl⟩) (.refl m) (by rw [hv]; exact VR.undef) hmut hrest (fun k a b => ?_) (by rw [hh]; exact I1.go) fun b p h => .inl h)⟩
      have : k = j + 1 := by omega
      subst this
      rw [hh]
      exact I1.relk j I1.h0 (Nat.le_refl _)
end
end Go.Gh
/- The ghost machine: regions whose order is drawn: the whole region. -/
namespace Go.Gh
open Go.RowKit
set_option linter.unusedVariables false
set_option linter.unusedSimpArgs false

section
variable {P : Program} {base : Nat} {m : PM} {w : World} {d c : Nat} {call : Handle} {ops : Array Oper} {as : Nat → GA} {hs : Nat → GH} {vs : Nat → Value} {m0 : PM} {w0 : World} {act0 : Act} {listed : Array Bool} {act : Act} {ν0 ν : Nat}

theorem VRs.of_opt {m : PM} {xs ys : List Value} (h : ∀ t : Nat, OptVR m xs[t]? ys[t]?) : VRs m xs ys := by
  have hl : xs.length = ys.length := by
    rcases Nat.lt_trichotomy xs.length ys.length with hlt | heq | hgt
    · have := h xs.length
      rw [List.getElem?_eq_none (Nat.le_refl _), List.getElem?_eq_getElem hlt] at this
      exact this.elim
    · exact heq
    · have := h ys.length
      rw [List.getElem?_eq_none (l := ys) (Nat.le_refl _), List.getElem?_eq_getElem hgt] at this
      exact this.elim
  refine VRs.of_get? hl fun i u v hu hv => ?_
  have := h i
  rw [hu, hv] at this
  exact this
theorem VRs.opt {m : PM} {xs ys : List Value} (h : VRs m xs ys) (t : Nat) : OptVR m xs[t]? ys[t]? := by
  cases hx : xs[t]? with
  | none =>
    rw [List.getElem?_eq_none_iff] at hx
    rw [List.getElem?_eq_none (by rw [← h.1]; exact hx)]
    trivial
  | some u =>
    obtain ⟨v, hv, hr⟩ := h.get? hx
    rw [hv]
    exact hr

/-- Nothing ready: all have been carried out. -/
theorem all_listed (hE : edgesOk ops = true) (hsz : listed.size = ops.size) (hr : Region.ready .any ops listed = []) : ∀ k, k < ops.size → listed.getD k false = true := by
  intro k
  induction k using Nat.strongRecOn with
  | _ k ih =>
    intro hk
    cases hl : listed.getD k false with
    | true => rfl
    | false =>
      have : k ∈ Region.ready .any ops listed := mem_ready.2 ⟨by
        rw [Array.getD_eq_getD_getElem?, Array.getElem?_eq_getElem (by omega)] at hl ⊢
        exact hl, ops[k], Array.getElem?_eq_getElem hk, fun e he hb => by
          have hlt := edgesOk_spec hE (Array.getElem?_eq_getElem hk) e he hb
          exact ih e.on hlt (by omega)⟩
      rw [hr] at this
      cases this

theorem Inv.done {Q : Exit → Act → World → Prop} (I : Inv P base d c ops as hs m0 w0 act0 listed act w m ν0 ν) (T : Trace P d call ops.toList ops.toList as hs vs) (hcd : (c = 1 ∧ d = 2) ∨ (c = 2 ∧ d = 1) ∨ (c = d ∧ 3 ≤ d))
    (hall : ∀ k, k < ops.size → listed.getD k false = true)
    (hend : ∀ act' w' m', VRs m' (as ops.size) act'.tmps.toList → Rel P base m' (hs ops.size) w' → Go1 base m0 m' (hs 0) (hs ops.size) w0 w' → act'.defers = act0.defers → Q .normal act' w') : Q .normal act w := by
  have I1 := I.shift T hcd (ν' := ops.size) I.hν (Nat.le_refl _) fun k o hk hge hlt h2 => by
    have := I.rest k o hk hge (by omega)
    rw [hall k hlt] at this; cases this
  refine hend act w m (VRs.of_opt fun t => ?_) (I1.rel T hcd) I1.go I1.defs
  have := I1.tmp t ops.size (Nat.le_refl _) fun i o hi _ => ⟨fun h => hall i h, fun _ => (Array.getElem?_eq_some_iff.1 hi).1⟩
  have e : act.tmps.toList[t]? = act.tmps[t]? := Array.getElem?_toList
  rw [e]
  exact this.mono (lim_le _ _)

theorem any_sound {F : Fence} (hF : FenceOk F) (hc : HOk P call) {n : Nat} {Q : Exit → Act → World → Prop}
    (T : Trace P d call ops.toList ops.toList as hs vs) (hcd : (c = 1 ∧ d = 2) ∨ (c = 2 ∧ d = 1) ∨ (c = d ∧ 3 ≤ d)) (hE : edgesOk ops = true)
    (hM : memOk P c ops = true) (hT : tmpsOk ops = true) (hok : ∀ (j : Nat) (o : Oper), ops[j]? = some o → opOk o = true) (hb0 : base ≤ w0.heap.size)
    (hend : ∀ act' w' m', VRs m' (as ops.size) act'.tmps.toList → Rel P base m' (hs ops.size) w' → Go1 base m0 m' (hs 0) (hs ops.size) w0 w' → act'.defers = act0.defers → Q .normal act' w') :
    ∀ (fuel : Nat) (listed : Array Bool) (act : Act) (w : World) (m : PM) (ν0 ν : Nat), Inv P base d c ops as hs m0 w0 act0 listed act w m ν0 ν → listed.toList.count false ≤ fuel → wpAnyIn F n P .any ops Q fuel listed act w := by
  intro fuel
  induction fuel with
  | zero =>
    intro listed act w m ν0 ν I hcnt
    have hall : ∀ k, k < ops.size → listed.getD k false = true := fun k hk => by
      have h0 : listed.toList.count false = 0 := by omega
      rw [List.count_eq_zero] at h0
      have hkl : k < listed.size := by rw [I.sz]; exact hk
      rw [Array.getD_eq_getD_getElem?, Array.getElem?_eq_getElem hkl]
      cases hv : listed[k] with
      | true => rfl
      | false => exact absurd (by rw [← hv]; simp) h0
    refine ⟨?_, I.done T hcd hall hend⟩
    cases hr : Region.ready .any ops listed with
    | nil => rfl
    | cons j js =>
      have hj : j ∈ Region.ready .any ops listed := by rw [hr]; simp
      have h1 := ready_un hj
      obtain ⟨_, o, ho, _⟩ := mem_ready.1 hj
      rw [hall j (Array.getElem?_eq_some_iff.1 ho).1] at h1
      cases h1
  | succ fuel ih =>
    intro listed act w m ν0 ν I hcnt
    refine ⟨fun hr => I.done T hcd (all_listed hE I.sz hr) hend, fun j hj => ?_⟩
    refine I.op hF hc T hcd hM hT hok (Nat.le_trans hb0 I.go.keep.size) hj fun act' w' m' ν0' ν' I' => ih _ _ _ _ _ _ I' ?_
    have hun := ready_un hj
    obtain ⟨_, o, ho, _⟩ := mem_ready.1 hj
    have hjl : j < listed.toList.length := by rw [Array.length_toList, I.sz]; exact (Array.getElem?_eq_some_iff.1 ho).1
    have hv : listed.toList[j] = false := by
      rw [Array.getD_eq_getD_getElem?, Array.getElem?_eq_getElem (by simpa using hjl)] at hun
      simpa using hun
    rw [Array.toList_setIfInBounds, List.count_set hjl, hv]
    have : 0 < listed.toList.count false := List.count_pos_iff.2 (hv ▸ List.getElem_mem hjl)
    rw [if_pos (by rfl), if_neg (by decide)]
    omega

theorem region_any {F : Fence} (hF : FenceOk F) (hc : HOk P call) (hmix : P.follows .mixedOrders = true) {n id : Nat} {β : Type} {Q : Exit → Act → World → Prop} {K : GA → GH → M β} {outs : List β} {a : GA} {H : GH}
    (hcd : (c = 1 ∧ d = 2) ∨ (c = 2 ∧ d = 1) ∨ (c = d ∧ 3 ≤ d)) (hE : edgesOk ops = true) (hM : memOk P c ops = true) (hT : tmpsOk ops = true) (hok : ∀ o ∈ ops.toList, opOk o = true)
    (h : gOps P d call ops.toList 0 ops.toList a H K = some outs) (hA : VRs m a act.tmps.toList) (hR : Rel P base m H w) (hb : base ≤ w.heap.size)
    (hK : ∀ a' H' m' act' w' o, K a' H' = some o → o ⊆ outs → VRs m' a' act'.tmps.toList → Rel P base m' H' w' → Go1 base m m' H H' w w' → act'.defers = act.defers → Q .normal act' w') :
    (Code.region id ops true).wpIn F n P Q act w := by
  refine wpIn_region_any hmix ?_
  obtain ⟨as, hs, vs, h1, h2, T, o, ho, hsub⟩ := trace_of (by omega) ops.toList (Nat.zero_add _) h
  have hR0 : Rel P base m (hs 0) { w with drawn := w.drawn + 1 } := by rw [h2]; exact hR.drew rfl
  have hm0 : ∀ b p, m b = some p → b < (hs 0).n := fun b p hb => hR0.id_lt hb
  have hlim : ∀ N, (hs 0).n ≤ N → lim m N = m := fun N hN => by
    funext b
    unfold lim
    split
    · rfl
    · cases hb : m b with
      | none => rfl
      | some p => have := hm0 b p hb; omega
  refine any_sound hF hc T hcd hE hM hT (fun j o ho => hok o (List.mem_of_getElem? (by rw [Array.getElem?_toList]; exact ho))) (m0 := m) (w0 := { w with drawn := w.drawn + 1 }) (act0 := act) (base := base) hb (fun act' w' m' g1 g2 g3 g4 => ?_) ops.size _ act _ m 0 0 ?_ ?_
  · rw [← Array.length_toList] at g1 g2 g3
    exact hK _ _ m' act' w' o ho hsub g1 g2 ((Go1.drew (w := w) (w' := { w with drawn := w.drawn + 1 }) rfl rfl rfl rfl).trans (by rw [h2] at g3; exact g3)) g4
  · refine ⟨Nat.zero_le _, Nat.le_refl _, fun k o _ _ h => by omega, .inl rfl, by simp, fun i k hi => ?_, fun k o _ h => by omega, fun k o hk _ _ => ?_, fun k hk0 hk1 => ?_, .refl _ _ _ _, fun b p h => .inl h, fun t k hk hw => ?_, rfl, hm0, hR.glob⟩
    · rw [Array.getD_eq_getD_getElem?, Array.getElem?_replicate] at hi
      split at hi <;> cases hi
    · rw [Array.getD_eq_getD_getElem?, Array.getElem?_replicate]
      split <;> rfl
    · have : k = 0 := by omega
      subst this
      rw [hlim _ (Nat.le_refl _)]; exact hR0
    · have e := T.same (t := t) (i := 0) (j := k) (Nat.zero_le _) hk fun i oi hi _ hik hd => by
        have := (hw i oi hi hd).1 hik
        rw [Array.getD_eq_getD_getElem?, Array.getElem?_replicate] at this
        split at this <;> cases this
      rw [e, h1, hlim _ (T.mono (by omega) (Nat.zero_le _) hk), ← Array.getElem?_toList]
      exact hA.opt t
  · simp [Array.toList_replicate, List.count_replicate]
end
end Go.Gh
