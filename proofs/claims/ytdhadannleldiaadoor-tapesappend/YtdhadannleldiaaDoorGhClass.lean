/- The ghost machine: what the classes of operations promise. -/
import Derived.Test.YtdhadannleldiaaDoorGfStep
namespace Go.Gh
open Go.RowKit
set_option linter.unusedVariables false
set_option linter.unusedSimpArgs false
section
variable {P : Program}

theorem onV_any {x : Option Value} {H : GH} {l : List (Value × GH)} (h : (onV x fun v => gRet v H) = some l) : ∃ v, l = [(v, H)] ∧ ∀ H1 : GH, (onV x fun v => gRet v H1) = some [(v, H1)] := by
  obtain ⟨v, rfl, rfl⟩ := onV_ret h
  exact ⟨v, rfl, fun _ => rfl⟩

theorem gMark_n {u r : Value} {H H' : GH} (h : gMark u H = some (r, H')) : H'.n = H.n := by
  unfold gMark at h
  split at h
  · split at h
    · cases h
    · split at h
      · injection h with h
        injection h with _ h
        subst h
        rfl
      · cases h
  · cases h
theorem step0 {d c : Nat} (hc0 : c ≠ 0) {call : Handle} {ρ : Operand → Value} {o : Oper} {H : GH} {l : List (Value × GH)} (hc : opCls P c o = 0) (h : gStep P d call ρ o H gRet = some l) :
    ∃ v, l = [(v, H)] ∧ ∀ H1 : GH, gStep P d call ρ o H1 gRet = some [(v, H1)] := by
  unfold opCls at hc
  unfold gStep at h ⊢
  cases hop : o.op <;> rw [hop] at h hc <;> (try simp only at hc) <;> (try (first | omega | (exfalso; exact absurd hc (by decide)))) <;> (try simp only at h ⊢)
  case makeFunc f a b => cases f <;> first | (injection h with h; subst h; exact ⟨_, rfl, fun _ => rfl⟩) | cases h
  case convert src dst x =>
    have hs : isSelf P src dst = false := by
      cases hh : isSelf P src dst with
      | true => rw [hh] at hc; cases hc
      | false => rfl
    rw [hs] at hc h ⊢
    simp only [Bool.false_eq_true, if_false] at hc h ⊢
    have hb : isBytes P src dst = false := by
      split at hc
      · cases hc
      · next hb => simpa using hb
    unfold gConvert at h ⊢
    simp only [hb, Bool.false_eq_true, if_false] at h ⊢
    exact onV_any h
  case call cl =>
    cases hcl : cl.callee with
    | invoke r s => rw [hcl] at h; cases h
    | value f => rw [hcl] at hc; simp only at hc; split at hc <;> first | exact absurd hc hc0 | (exact absurd hc (by decide))
    | builtin b =>
      have hnm : b ≠ .append → (decide (3 ≤ d) && maskHit (d - 3) cl) = false := fun hne => by
        unfold maskHit; rw [hcl]; cases b <;> first | exact absurd rfl hne | simp
      rw [hcl] at h hc
      simp only at h hc ⊢
      cases b <;> simp only at hc <;> (try (first | omega | (exfalso; exact absurd hc (by decide)) | (exfalso; split at hc <;> exact absurd hc (by decide))))
      all_goals rw [hnm (by decide)] at h ⊢; simp only [Bool.false_eq_true, if_false] at h ⊢
      case len =>
        unfold gBuiltin at h ⊢
        split at h
        · next ty t x ht hx =>
          have e : (cl.argTypes[0]?).bind P.underlying = P.underlying ty := by
            have : cl.argTypes[0]? = some ty := by rw [← Array.getElem?_toList, ht]; rfl
            rw [this]; rfl
          rw [e] at hc
          split at h
          · next kt et hu => rw [hu] at hc; cases hc
          · exact onV_any h
        all_goals first | contradiction | cases h
      all_goals
        unfold gBuiltin at h ⊢
        first
          | exact onV_any h
          | (split at h <;> first | exact onV_any h | contradiction | cases h)
  all_goals first
    | exact onV_any h
    | (injection h with h; subst h; exact ⟨_, rfl, fun _ => rfl⟩)
    | cases h

/-- The heap has grown at most. -/
structure Quiet (H H' : GH) : Prop where
  n : H.n ≤ H'.n
  get : ∀ b, b < H.n → H'.get b = H.get b
  lo : H'.lo ≤ H.lo
theorem Quiet.refl (H : GH) : Quiet H H := ⟨Nat.le_refl _, fun _ _ => rfl, Nat.le_refl _⟩
theorem Quiet.push (H : GH) (o : GObj) : Quiet H (H.push o) := ⟨by rw [GH.push_n]; omega, fun b hb => GH.get_push_old hb, Nat.le_refl _⟩
theorem Quiet.trans {A B C : GH} (h : Quiet A B) (k : Quiet B C) : Quiet A C := ⟨Nat.le_trans h.n k.n, fun b hb => (k.get b (Nat.lt_of_lt_of_le hb h.n)).trans (h.get b hb), Nat.le_trans k.lo h.lo⟩

/-- A step that looks, or lays new blocks. -/
def Calm (G : GH → M (Value × GH)) (H : GH) (v : Value) (H' : GH) : Prop := Quiet H H' ∧ G { H with lo := H.n } = some [(v, { H' with lo := H.n })]

theorem calm_onV {f : GH → Option Value} (hf : ∀ (H : GH) (l : Nat), f { H with lo := l } = f H) {H H' : GH} {v : Value} (h : (onV (f H) fun v => gRet v H) = some [(v, H')]) : Calm (fun H => onV (f H) fun v => gRet v H) H v H' := by
  obtain ⟨v', hv, e⟩ := onV_ret h
  injection e with e _
  injection e with e1 e2
  have e2 := e2.symm
  subst e1; subst e2
  refine ⟨.refl _, ?_⟩
  show (onV (f { H with lo := H.n }) fun v => gRet v { H with lo := H.n }) = _
  rw [hf, hv]
  rfl
theorem calm_onVH {f : GH → Option (Value × GH)} (hf : ∀ (H : GH) (l : Nat) (v : Value) (H' : GH), f H = some (v, H') → (∃ o, H' = H.push o) ∧ f { H with lo := l } = some (v, { H' with lo := l })) {H H' : GH} {v : Value}
    (h : onVH (f H) gRet = some [(v, H')]) : Calm (fun H => onVH (f H) gRet) H v H' := by
  obtain ⟨v', H1, hv, e⟩ := onVH_ret h
  injection e with e _
  injection e with e1 e2
  subst e1; subst e2
  obtain ⟨⟨o, rfl⟩, h2⟩ := hf H H.n _ _ hv
  refine ⟨.push _ _, ?_⟩
  show onVH (f { H with lo := H.n }) gRet = _
  rw [h2]
  rfl

theorem gBuildSlice_lo {t : TypeId} {len : Nat} {parts : List (Nat × Value)} (H : GH) (l : Nat) (v : Value) (H' : GH) (h : gBuildSlice P t len parts H = some (v, H')) :
    (∃ o, H' = H.push o) ∧ gBuildSlice P t len parts { H with lo := l } = some (v, { H' with lo := l }) := by
  unfold gBuildSlice at h ⊢
  split at h
  case h_2 => cases h
  next e hu =>
  split at h
  case h_2 => cases h
  next i z hi hz =>
  split at h
  case isFalse => cases h
  next hok =>
  split at h
  case h_2 => cases h
  next cells hc =>
  simp only [Option.some.injEq, Prod.mk.injEq] at h
  obtain ⟨rfl, rfl⟩ := h
  refine ⟨⟨_, rfl⟩, ?_⟩
  simp only [hok, hc]
  rfl
theorem gMakeSlice_lo {t : TypeId} {a b : Value} (H : GH) (l : Nat) (v : Value) (H' : GH) (h : gMakeSlice P t a b H = some (v, H')) :
    (∃ o, H' = H.push o) ∧ gMakeSlice P t a b { H with lo := l } = some (v, { H' with lo := l }) := by
  unfold gMakeSlice at h ⊢
  split at h
  case h_2 => cases h
  next e hu =>
  split at h
  case h_2 => cases h
  next i z hi hz =>
  split at h
  case isFalse => cases h
  next hok =>
  simp only [Option.some.injEq, Prod.mk.injEq] at h
  obtain ⟨rfl, rfl⟩ := h
  refine ⟨⟨_, rfl⟩, ?_⟩
  simp only [if_pos hok]
  rfl
theorem gRange_lo {t : TypeId} {x : Value} (H : GH) (l : Nat) (v : Value) (H' : GH) (h : gRange P t x H = some (v, H')) :
    (∃ o, H' = H.push o) ∧ gRange P t x { H with lo := l } = some (v, { H' with lo := l }) := by
  unfold gRange at h ⊢
  split at h
  · simp only [Option.some.injEq, Prod.mk.injEq] at h
    obtain ⟨rfl, rfl⟩ := h
    exact ⟨⟨_, rfl⟩, rfl⟩
  · simp only [Option.some.injEq, Prod.mk.injEq] at h
    obtain ⟨rfl, rfl⟩ := h
    exact ⟨⟨_, rfl⟩, rfl⟩
  · next m hu =>
    split at h
    · next es clock hg =>
      simp only [Option.some.injEq, Prod.mk.injEq] at h
      obtain ⟨rfl, rfl⟩ := h
      have hg' : GH.get { H with lo := l } m = some (.map es clock) := hg
      refine ⟨⟨_, rfl⟩, ?_⟩
      simp only [hg']
      rfl
    · cases h
  · cases h

theorem onCall_calm {call : Handle} {f : Value} {args : List Value} {H H' : GH} {v : Value} (h : onCall 2 call f args H gRet = some [(v, H')]) : Calm (fun H => onCall 2 call f args H gRet) H v H' := by
  unfold onCall at h
  simp only at h
  split at h
  · next v1 H1 hcl =>
    split at h
    · next hlo =>
      simp only [gRet, ret, Option.some.injEq, List.cons.injEq, Prod.mk.injEq, and_true] at h
      obtain ⟨rfl, rfl⟩ := h
      obtain ⟨h1, h2, h3⟩ := hlo
      refine ⟨⟨h2, fun b hb => ?_, by show min H.lo H1.lo ≤ H.lo; omega⟩, ?_⟩
      · unfold GH.get
        simp only
        rw [if_pos (by omega), if_pos hb, List.getElem?_append_right (by rw [h3]; omega), h3]
        congr 1
        omega
      · show onCall 2 call f args { H with lo := H.n } gRet = _
        unfold onCall
        simp only
        rw [hcl]
        simp only
        rw [if_pos ⟨h1, h2, h3⟩]
        simp only [gRet, ret, Option.some.injEq, List.cons.injEq, Prod.mk.injEq, and_true, true_and]
        congr 1
        omega
    · cases h
  · cases h

theorem gAppendQ_calm {st xt : TypeId} {s x : Value} {H H' : GH} {v : Value} (h : gAppendQ P st xt s x H = some (v, H')) (hq : ∀ v1 H1, gAppend P st xt s x { H with lo := H.n } = some (v1, H1) → H1.lo = H.n → Quiet { H with lo := H.n } H1) :
    Quiet H H' ∧ gAppendQ P st xt s x { H with lo := H.n } = some (v, { H' with lo := H.n }) := by
  unfold gAppendQ at h
  split at h
  · next v1 H1 h1 =>
    split at h
    · next hl =>
      simp only [Option.some.injEq, Prod.mk.injEq] at h
      obtain ⟨rfl, rfl⟩ := h
      have q := hq _ _ h1 hl
      refine ⟨⟨q.n, q.get, Nat.le_refl _⟩, ?_⟩
      unfold gAppendQ
      simp only [h1, hl, if_true]
    · cases h
  · cases h
theorem gAppend_quiet {st xt : TypeId} {s x : Value} {H H1 : GH} {v1 : Value} (h : gAppend P st xt s x H = some (v1, H1)) (hlo : H.lo = H.n) (hl : H1.lo = H.n) : Quiet H H1 := by
  unfold gAppend at h
  (repeat' split at h) <;> first
    | (cases h; done)
    | (simp only [Option.some.injEq, Prod.mk.injEq] at h; obtain ⟨_, rfl⟩ := h; first | exact .refl _ | exact .push _ _ | skip)
    | skip
  · obtain ⟨H2, h1, h2⟩ := Option.map_eq_some_iff.1 h
    simp only [Prod.mk.injEq] at h2
    obtain ⟨_, rfl⟩ := h2
    unfold gStoreCells at h1
    split at h1
    · next hg =>
      split at h1
      · injection h1 with h1
        subst h1
        rw [GH.set_lo] at hl
        have := GH.get_lt hg
        omega
      · cases h1
    · cases h1
  · next hg _ _ _ =>
    rw [GH.push_lo, GH.set_lo] at hl
    have := GH.get_lt hg
    omega
theorem step1 {d c : Nat} (hcd : (c = 1 ∧ d = 2) ∨ (c = 2 ∧ d = 1) ∨ (c = d ∧ 3 ≤ d)) {call : Handle} {ρ : Operand → Value} {o : Oper} {H H' : GH} {v : Value} (hc : opCls P c o = 1) (h : gStep P d call ρ o H gRet = some [(v, H')]) :
    Calm (fun H => gStep P d call ρ o H gRet) H v H' := by
  unfold opCls at hc
  unfold gStep at h ⊢
  cases hop : o.op <;> rw [hop] at h hc <;> (try simp only at hc) <;> (try (first | omega | (exfalso; exact absurd hc (by decide)))) <;> (try simp only at h ⊢)
  case alloc e =>
    cases hz : gZero P e with
    | none => rw [hz] at h; cases h
    | some z =>
      rw [hz] at h
      simp only [onV, gRet, ret, Option.some.injEq, List.cons.injEq, Prod.mk.injEq, and_true] at h
      obtain ⟨rfl, rfl⟩ := h
      exact ⟨.push _ _, rfl⟩
  case box e x =>
    cases hz : gSize P e with
    | none => rw [hz] at h; cases h
    | some z =>
      rw [hz] at h
      simp only [gRet, ret, Option.some.injEq, List.cons.injEq, Prod.mk.injEq, and_true] at h
      obtain ⟨rfl, rfl⟩ := h
      exact ⟨.push _ _, rfl⟩
  case makeMap t r =>
    cases r with
    | some _ => cases h
    | none =>
      simp only [gRet, ret, Option.some.injEq, List.cons.injEq, Prod.mk.injEq, and_true] at h
      obtain ⟨rfl, rfl⟩ := h
      exact ⟨.push _ _, rfl⟩
  case buildSlice t len parts => exact calm_onVH (f := gBuildSlice P t len (gParts ρ parts)) gBuildSlice_lo h
  case makeSlice t a b => exact calm_onVH (f := gMakeSlice P t (ρ a) (ρ b)) gMakeSlice_lo h
  case range t x => exact calm_onVH (f := gRange P t (ρ x)) gRange_lo h
  case convert src dst x =>
    have hs : isSelf P src dst = false := by
      cases hh : isSelf P src dst with
      | true => rw [hh] at hc; cases hc
      | false => rfl
    rw [hs] at h ⊢
    simp only [Bool.false_eq_true, if_false] at h ⊢
    exact calm_onV (f := gConvert P src dst (ρ x)) (fun _ _ => rfl) h
  case load t a => exact calm_onV (f := gLoad P t (ρ a)) (fun _ _ => rfl) h
  case lookup t x k ok => exact calm_onV (f := gLookup P t (ρ x) (ρ k) ok) (fun _ _ => rfl) h
  case entry it => exact calm_onV (f := gEntry (ρ it)) (fun _ _ => rfl) h
  case call cl =>
    cases hcl : cl.callee with
    | invoke r s => rw [hcl] at h; cases h
    | value f =>
      rw [hcl] at hc h
      simp only at hc h
      rcases hcd with ⟨_, rfl⟩ | ⟨h2, _⟩ | ⟨rfl, h2⟩
      · exact onCall_calm h
      · subst h2; exact absurd hc (by decide)
      · rw [if_pos h2] at hc; exact absurd hc (by decide)
    | builtin b =>
      by_cases hm : (decide (3 ≤ d) && maskHit (d - 3) cl) = true
      · rw [hcl] at h
        simp only [hm, if_true] at h ⊢
        unfold gBuiltinQ at h ⊢
        split at h
        · rename_i st xt s x ht hargs
          obtain ⟨v', H1, hv, e⟩ := onVH_ret h
          injection e with e _
          injection e with e1 e2
          subst e1; subst e2
          obtain ⟨q1, q2⟩ := gAppendQ_calm hv fun v1 H1 h1 hl => gAppend_quiet h1 rfl hl
          refine ⟨q1, ?_⟩
          simp only [q2]
          rfl
        · cases h
      have hmf : (decide (3 ≤ d) && maskHit (d - 3) cl) = false := by simpa using hm
      have hmc : (decide (3 ≤ c) && maskHit (c - 3) cl) = true → False := fun hh => by
        rcases hcd with ⟨rfl, _⟩ | ⟨rfl, _⟩ | ⟨rfl, h2⟩
        · simp at hh
        · simp at hh
        · exact hm hh
      rw [hcl] at h hc
      rw [hmf] at h
      rw [hmf]
      simp only [Bool.false_eq_true, if_false] at h hc ⊢
      cases b <;> simp only at hc <;> (try (first | omega | (exfalso; exact absurd hc (by decide)) | (exfalso; split at hc <;> first | exact hmc ‹_› | exact absurd hc (by decide))))
      case len =>
        unfold gBuiltin at h ⊢
        split at h
        · next ty t x ht hx =>
          have e : (cl.argTypes[0]?).bind P.underlying = P.underlying ty := by
            have : cl.argTypes[0]? = some ty := by rw [← Array.getElem?_toList, ht]; rfl
            rw [this]; rfl
          rw [e] at hc
          split at h
          · next kt et hu => exact calm_onV (f := fun H => (gMap _ H).map fun y => .int .i64 y.2.1.length) (fun _ _ => rfl) h
          · next hne =>
            split at hc
            · next kt et hu => exact absurd hu (hne kt et)
            · cases hc
        all_goals first | contradiction | cases h

/-! ### No block goes -/
theorem gStoreCells_n {b o : Nat} {vs : List Value} {H H' : GH} (h : gStoreCells b o vs H = some H') : H'.n = H.n := by
  unfold gStoreCells at h
  split at h
  · split at h
    · injection h with h; subst h; rfl
    · cases h
  · cases h
theorem gStore_n {t : TypeId} {a v : Value} {H H' : GH} (h : gStore P t a v H = some H') : H'.n = H.n := by
  unfold gStore at h
  split at h
  · split at h
    · split at h
      · exact gStoreCells_n h
      · cases h
    · cases h
  · cases h
theorem gMapUpdate_n {t : TypeId} {x k v : Value} {H H' : GH} (h : gMapUpdate P t x k v H = some H') : H'.n = H.n := by
  unfold gMapUpdate at h
  (repeat' split at h) <;> first | (cases h; done) | (injection h with h; subst h; rfl)
theorem gEntryStore_n {x k v : Value} {H H' : GH} (h : gEntryStore x k v H = some H') : H'.n = H.n := by
  unfold gEntryStore at h
  (repeat' split at h) <;> first | (cases h; done) | (injection h with h; subst h; rfl)
theorem gDelete_n {t : TypeId} {x k : Value} {H H' : GH} (h : gDelete P t x k H = some H') : H'.n = H.n := by
  unfold gDelete at h
  (repeat' split at h) <;> first | (cases h; done) | (injection h with h; subst h; rfl)
theorem gMapEntry_n {t : TypeId} {x k v : Value} {H H' : GH} (h : gMapEntry P t x k H = some (v, H')) : H'.n = H.n := by
  unfold gMapEntry at h
  (repeat' split at h) <;> first | (cases h; done) | (simp only [Option.some.injEq, Prod.mk.injEq] at h; obtain ⟨_, rfl⟩ := h; rfl)
theorem gClear_n {t : TypeId} {x : Value} {H H' : GH} (h : gClear P t x H = some H') : H'.n = H.n := by
  unfold gClear at h
  (repeat' split at h) <;> first | (cases h; done) | (injection h with h; subst h; rfl) | exact gStoreCells_n h
theorem gCopy_n {t : TypeId} {d s v : Value} {H H' : GH} (h : gCopy P t d s H = some (v, H')) : H'.n = H.n := by
  unfold gCopy at h
  simp only at h
  (repeat' split at h) <;> first
    | (cases h; done)
    | (simp only [Option.some.injEq, Prod.mk.injEq] at h; obtain ⟨_, rfl⟩ := h; rfl)
    | (obtain ⟨H1, h1, h2⟩ := Option.map_eq_some_iff.1 h; simp only [Prod.mk.injEq] at h2; obtain ⟨_, rfl⟩ := h2; exact gStoreCells_n h1)
theorem gAppend_n {st xt : TypeId} {s x v : Value} {H H' : GH} (h : gAppend P st xt s x H = some (v, H')) : H.n ≤ H'.n := by
  unfold gAppend at h
  (repeat' split at h) <;> first
    | (cases h; done)
    | (simp only [Option.some.injEq, Prod.mk.injEq] at h; obtain ⟨_, rfl⟩ := h; first | exact Nat.le_refl _ | exact Nat.le_succ _)
    | (obtain ⟨H1, h1, h2⟩ := Option.map_eq_some_iff.1 h; simp only [Prod.mk.injEq] at h2; obtain ⟨_, rfl⟩ := h2; exact Nat.le_of_eq (gStoreCells_n h1).symm)
theorem gNext_n {it : Value} {s : Bool} {H : GH} {l : List (Value × GH)} (h : gNext it s H = some l) : ∀ x ∈ l, x.2.n = H.n := by
  unfold gNext at h
  (repeat' split at h) <;> first
    | (cases h; done)
    | (injection h with h; subst h; intro x hx; rw [List.mem_singleton] at hx; subst hx; rfl)
    | skip
  all_goals
    simp only [Option.some.injEq] at h
    subst h
    intro x hx
    rcases List.mem_append.1 hx with hx | hx
    · split at hx
      · rw [List.mem_singleton] at hx; subst hx; rfl
      · cases hx
    · obtain ⟨e, _, rfl⟩ := List.mem_map.1 hx
      rfl

theorem onH_n {x : Option GH} {u v : Value} {H H' : GH} (h : (onH x fun H => gRet u H) = some [(v, H')]) (hx : ∀ H1, x = some H1 → H.n ≤ H1.n) : H.n ≤ H'.n := by
  obtain ⟨H1, h1, e⟩ := onH_ret h
  injection e with e _
  injection e with _ e
  subst e
  exact hx _ h1
theorem onVH_n {x : Option (Value × GH)} {v : Value} {H H' : GH} (h : onVH x gRet = some [(v, H')]) (hx : ∀ v1 H1, x = some (v1, H1) → H.n ≤ H1.n) : H.n ≤ H'.n := by
  obtain ⟨v1, H1, h1, e⟩ := onVH_ret h
  injection e with e _
  injection e with _ e
  subst e
  exact hx _ _ h1
theorem onV_n {x : Option Value} {v : Value} {H H' : GH} (h : (onV x fun v => gRet v H) = some [(v, H')]) : H.n ≤ H'.n := by
  obtain ⟨v1, h1, e⟩ := onV_ret h
  injection e with e _
  injection e with _ e
  subst e
  exact Nat.le_refl _
theorem gBuiltin_n {b : Builtin} {tys : List TypeId} {args : List Value} {v : Value} {H H' : GH} (h : gBuiltin P b tys args H gRet = some [(v, H')]) : H.n ≤ H'.n := by
  unfold gBuiltin at h
  split at h
  · split at h
    · exact onV_n h
    · exact onV_n h
  · exact onV_n h
  · exact onVH_n h fun _ _ h => gAppend_n h
  · exact onVH_n h fun _ _ h => Nat.le_of_eq (gCopy_n h).symm
  · exact onH_n h fun _ h => Nat.le_of_eq (gClear_n h).symm
  · exact onH_n h fun _ h => Nat.le_of_eq (gDelete_n h).symm
  · exact onV_n h
  · exact onV_n h
  · cases h

theorem stepN {d : Nat} (hd : d ≠ 0) {call : Handle} {ρ : Operand → Value} {o : Oper} {H H' : GH} {v : Value} (h : gStep P d call ρ o H gRet = some [(v, H')]) : H.n ≤ H'.n := by
  unfold gStep at h
  split at h
  case h_32 c _ =>
    split at h
    · unfold onCall at h
      split at h
      · exact absurd rfl hd
      · split at h
        · split at h
          · next hle =>
            injection h with h; injection h with h _; injection h with _ h; subst h
            exact hle
          · cases h
        · cases h
      · split at h
        · split at h
          · next hle =>
            injection h with h; injection h with h _; injection h with _ h; subst h
            exact hle.2.1
          · cases h
        · cases h
    · split at h
      · unfold gBuiltinQ at h
        split at h
        · exact onVH_n h fun _ _ h => by
            unfold gAppendQ at h
            split at h
            · next h1 =>
              split at h
              · simp only [Option.some.injEq, Prod.mk.injEq] at h
                obtain ⟨_, rfl⟩ := h
                have q : { H with lo := H.n }.n ≤ _ := gAppend_n h1
                exact q
              · cases h
            · cases h
        · cases h
      · exact gBuiltin_n h
    · cases h
  case h_33 => cases h
  case h_17 e _ =>
    cases hz : gZero P e with
    | none => rw [hz] at h; cases h
    | some z => rw [hz] at h; injection h with h; injection h with h _; injection h with _ h; subst h; exact Nat.le_succ _
  case h_18 e x _ =>
    split at h
    · injection h with h; injection h with h _; injection h with _ h; subst h; exact Nat.le_succ _
    · cases h
  case h_16 =>
    split at h
    · exact onVH_n h fun _ _ h => Nat.le_of_eq (gMark_n h).symm
    · exact onV_n h
  case h_27 =>
    split at h
    · exact onVH_n h fun _ _ h => Nat.le_of_eq (gMapEntry_n (gMapEntryQ_some h).1).symm
    · exact onVH_n h fun _ _ h => Nat.le_of_eq (gMapEntry_n h).symm
  case h_30 => exact Nat.le_of_eq (gNext_n (onNext_ret h) _ (List.mem_singleton.2 rfl)).symm
  all_goals first
    | exact onV_n h
    | exact onVH_n h fun _ _ h => Nat.le_of_eq (gMapEntry_n h).symm
    | exact onVH_n h fun _ _ h => by obtain ⟨⟨o, rfl⟩, _⟩ := gBuildSlice_lo _ 0 _ _ h; exact Nat.le_succ _
    | exact onVH_n h fun _ _ h => by obtain ⟨⟨o, rfl⟩, _⟩ := gMakeSlice_lo _ 0 _ _ h; exact Nat.le_succ _
    | exact onVH_n h fun _ _ h => by obtain ⟨⟨o, rfl⟩, _⟩ := gRange_lo _ 0 _ _ h; exact Nat.le_succ _
    | exact onH_n h fun _ h => Nat.le_of_eq (gStore_n h).symm
    | exact onH_n h fun _ h => Nat.le_of_eq (gMapUpdate_n h).symm
    | exact onH_n h fun _ h => Nat.le_of_eq (gEntryStore_n h).symm
    | (injection h with h; injection h with h _; injection h with _ h; subst h; first | exact Nat.le_refl _ | exact Nat.le_succ _)
end
end Go.Gh
