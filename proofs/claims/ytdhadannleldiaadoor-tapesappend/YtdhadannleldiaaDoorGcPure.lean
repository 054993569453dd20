/- The ghost machine: the operations on values come to what the model's come to. -/
import Derived.Test.YtdhadannleldiaaDoorGaGlob
import Derived.Laws.Entries
import Derived.Laws.Slices
namespace Go.Gh
open Go.RowKit
set_option linter.unusedVariables false
set_option linter.unusedSimpArgs false

theorem quick_run {α : Type} {P : Program} : ∀ (s : Sem α) (a : α), quick P s = some a → ∀ w, s.run P w = .ok a w := by
  intro s
  induction s with
  | pure a => intro b h w; simp only [quick] at h; injection h with h; subst h; rfl
  | program k ih => intro b h w; simp only [quick] at h; exact ih P b h w
  | mark m k ih => intro b h w; simp only [quick] at h; exact ih b h w
  | _ => intro b h; simp [quick] at h

section
variable {P : Program} {m : PM} {w : World}

theorem add_none (b o n : Nat) : (⟨b, o, none⟩ : Addr).add n = ⟨b, o + n, none⟩ := by
  unfold Addr.add
  split
  · rename_i h; subst h; rfl
  · rfl
theorem gSize_some {t : TypeId} {s : Nat} (h : gSize P t = some s) : ∃ i, P.info? t = some i ∧ i.size = s := by
  unfold gSize at h
  obtain ⟨i, hi, hs⟩ := Option.map_eq_some_iff.1 h
  exact ⟨i, hi, hs⟩
theorem run_sizeOf' {t : TypeId} {s : Nat} (h : gSize P t = some s) (w : World) : (sizeOf t).run P w = .ok s w := by
  obtain ⟨i, hi, rfl⟩ := gSize_some h
  simp [sizeOf, typeInfo, hi]
theorem run_isAgg {t : TypeId} {d : TypeDesc} (h : P.underlying t = some d) (w : World) : (isAgg t).run P w = .ok (gIsAgg P t) w := by
  unfold gIsAgg
  rw [h]
  cases d <;> simp [isAgg, run_underlying h]
theorem gZero_some {t : TypeId} {z : Value} (h : gZero P t = some z) : ∃ i, P.info? t = some i ∧ i.zero = some z ∧ closed z = true := by
  unfold gZero at h
  cases hi : P.info? t with
  | none => rw [hi] at h; simp at h
  | some i =>
    rw [hi] at h
    simp only [Option.bind_some] at h
    cases hz : i.zero with
    | none => rw [hz] at h; simp at h
    | some z' =>
      rw [hz] at h
      simp only at h
      split at h
      · injection h with h; subst h
        exact ⟨i, rfl, hz, by assumption⟩
      · cases h
theorem run_zeroValue' {t : TypeId} {z : Value} (h : gZero P t = some z) (w : World) : (zeroValue t).run P w = .ok z w := by
  obtain ⟨i, hi, hz, _⟩ := gZero_some h
  simp [zeroValue, typeInfo, hi, hz]

theorem oPick_VR {c c' a a' b b' v : Value} (h : oPick c a b = some v) (hc : VR m c c') (ha : VR m a a') (hb : VR m b b') :
    ∃ v', (do pure (if ← asBool c' then a' else b') : Sem Value).run P w = .ok v' w ∧ VR m v v' := by
  cases hc with
  | bool t =>
    simp only [oPick] at h
    injection h with h
    subst h
    cases t
    · exact ⟨b', by simp [asBool], hb⟩
    · exact ⟨a', by simp [asBool], ha⟩
  | _ => simp [oPick] at h

theorem oExtract_VR {x x' v : Value} {i : Nat} (h : oExtract x i = some v) (hx : VR m x x') : ∃ v', (Instr.extract x' i).run P w = .ok v' w ∧ VR m v v' := by
  cases hx with
  | tuple cs ds h3 h4 =>
    simp only [oExtract] at h
    obtain ⟨u, hu, hr⟩ := (VRs.toArr h3 h4).get? (i := i) (u := v) (by rw [Array.getElem?_toList]; exact h)
    rw [Array.getElem?_toList] at hu
    exact ⟨u, by simp [Instr.extract, hu], hr⟩
  | _ => simp [oExtract] at h

theorem oIface_VR {t : TypeId} {x x' v : Value} (h : oIface P t x = some v) (hx : VR m x x') : ∃ v', (Instr.makeInterface t x').run P w = .ok v' w ∧ VR m v v' := by
  unfold oIface at h
  cases hu : P.underlying t with
  | none => rw [hu] at h; simp at h
  | some d =>
    rw [hu] at h
    cases d <;> first
      | (simp at h; done)
      | (simp only [Option.some.injEq] at h; subst h; exact ⟨.iface t x', by simp [Instr.makeInterface, run_underlying hu], .iface t hx⟩)

theorem VR.ptr_inv {a : Addr} {x : Value} (h : VR m (.pointer (some a)) x) : ∃ b p o, a = ⟨b, o, none⟩ ∧ m b = some p ∧ x = .pointer (some ⟨p.blk, p.off + o, none⟩) := by
  cases h with
  | ptr o hp => exact ⟨_, _, o, rfl, hp, rfl⟩
theorem VR.slice_inv {a : Addr} {n c : Nat} {x : Value} (h : VR m (.slice (some a) n c) x) : (n = 0 ∧ c = 0 ∧ ∃ b o A, a = ⟨b, o, none⟩ ∧ x = .slice (some A) 0 0) ∨
    ∃ b p o o' c', a = ⟨b, o, none⟩ ∧ m b = some p ∧ x = .slice (some ⟨p.blk, o', none⟩) n c' ∧ n ≤ c' ∧ (0 < n → o' = p.off + o) ∧
    ((c < loose ∧ c' = c ∧ (0 < c → o' = p.off + o)) ∨ (c = loose + p.sz ∧ (p.rw = true → o' + c' * p.sz ≤ p.tot))) := by
  cases h with
  | slice o o' n c hp hc hn ho => exact .inr ⟨_, _, o, o', _, rfl, hp, rfl, hn, fun h => ho (by omega), .inl ⟨hc, rfl, ho⟩⟩
  | sliceL o o' n c c' hp hc hn ho hw => exact .inr ⟨_, _, o, _, _, rfl, hp, rfl, hn, ho, .inr ⟨hc, hw⟩⟩
  | sliceD b o A => exact .inl ⟨rfl, rfl, b, o, A, rfl, rfl⟩
theorem VR.int_inv {k : IntKind} {n : Int} {x : Value} (h : VR m (.int k n) x) : x = .int k n := by cases h; rfl
theorem VR.agg_inv {cs : Array Value} {x : Value} (h : VR m (.agg cs) x) : ∃ ds, x = .agg ds ∧ VRs m cs.toList ds.toList := by
  cases h with
  | agg cs ds h3 h4 => exact ⟨ds, rfl, VRs.toArr h3 h4⟩
theorem VR.sliceNil_inv {n c : Nat} {x : Value} (h : VR m (.slice none n c) x) : x = .slice none n c := by cases h; rfl

theorem oFieldAddr_VR {s : TypeId} {x x' v : Value} {f : Nat} (h : oFieldAddr P s x f = some v) (hx : VR m x x') : ∃ v', (Instr.fieldAt s x' f).run P w = .ok v' w ∧ VR m v v' := by
  unfold oFieldAddr at h
  split at h
  · next fs a hu =>
    split at h
    · next fd hf =>
      split at h
      · next n hs =>
        injection h with h
        subst h
        obtain ⟨b, p, o, rfl, hp, rfl⟩ := hx.ptr_inv
        refine ⟨.pointer (some ⟨p.blk, p.off + (o + fd.offset), none⟩), ?_, ?_⟩
        · simp [Instr.fieldAt, run_underlying hu, hf, Instr.sureAddr, fieldPlace, run_sizeOf' hs, add_none, Nat.add_assoc]
        · rw [add_none]; exact .ptr (o + fd.offset) hp
      · cases h
    · cases h
  · cases h

theorem gPart_VR {t : TypeId} {cs ds : Array Value} {off : Nat} {v : Value} (h : gPart P t cs off = some v) (hx : VRs m cs.toList ds.toList) :
    ∃ v', (part t ds off).run P w = .ok v' w ∧ VR m v v' := by
  unfold gPart at h
  cases hu : P.underlying t with
  | none => rw [hu] at h; cases h
  | some d =>
    rw [hu] at h
    simp only at h
    split at h
    · rename_i hag
      cases hs : gSize P t with
      | none => rw [hs] at h; cases h
      | some s =>
        rw [hs] at h
        simp only [Option.map_some, Option.some.injEq] at h
        subst h
        refine ⟨.agg (ds.extract off (off + s)), by simp [part, run_isAgg hu, hag, run_sizeOf' hs], .aggA ?_⟩
        rw [Array.toList_extract, Array.toList_extract]
        exact (hx.drop off).take _
    · rename_i hag
      have hag : gIsAgg P t = false := by simpa using hag
      obtain ⟨u, hu', hr⟩ := hx.get? (i := off) (u := v) (by rw [Array.getElem?_toList]; exact h)
      rw [Array.getElem?_toList] at hu'
      exact ⟨u, by simp [part, run_isAgg hu, hag, hu'], hr⟩

theorem oField_VR {t : TypeId} {x x' v : Value} {f : Nat} (h : oField P t x f = some v) (hx : VR m x x') : ∃ v', (Instr.field t x' f).run P w = .ok v' w ∧ VR m v v' := by
  unfold oField at h
  split at h
  · next fs cs hu =>
    split at h
    · next fd hf =>
      obtain ⟨ds, rfl, hd⟩ := hx.agg_inv
      obtain ⟨v', hv, hr⟩ := gPart_VR (w := w) h hd
      exact ⟨v', by simp [Instr.field, run_underlying hu, hf, asAgg, hv], hr⟩
    · cases h
  · cases h

theorem oIndexAddr_VR {t : TypeId} {x x' i i' v : Value} (h : oIndexAddr P t x i = some v) (hx : VR m x x') (hi : VR m i i') :
    ∃ v', (Instr.indexAt t x' i').run P w = .ok v' w ∧ VR m v v' := by
  unfold oIndexAddr at h
  split at h
  · next e a len cap k i hu =>
    split at h
    · next hlt =>
      obtain ⟨s, hs, rfl⟩ := Option.map_eq_some_iff.1 h
      have ei := hi.int_inv
      subst ei
      obtain ⟨b, p, o, o', c', rfl, hp, rfl, _, ho, _⟩ := hx.slice_inv.resolve_left (fun ⟨h0, _⟩ => by omega)
      have e := ho (by omega)
      subst e
      refine ⟨.pointer (some ⟨p.blk, p.off + (o + i.toNat * s), none⟩), ?_, ?_⟩
      · simp [Instr.indexAt, run_underlying hu, asIntOf, hlt, run_sizeOf' hs, add_none, Nat.add_assoc]
      · rw [add_none]; exact .ptr (o + i.toNat * s) hp
    · cases h
  · next len e a k i hu =>
    split at h
    · next hlt =>
      obtain ⟨s, hs, rfl⟩ := Option.map_eq_some_iff.1 h
      have ei := hi.int_inv
      subst ei
      obtain ⟨b, p, o, rfl, hp, rfl⟩ := hx.ptr_inv
      refine ⟨.pointer (some ⟨p.blk, p.off + (o + i.toNat * s), none⟩), ?_, ?_⟩
      · simp [Instr.indexAt, run_underlying hu, asIntOf, Instr.sureAddr, hlt, run_sizeOf' hs, add_none, Nat.add_assoc]
      · rw [add_none]; exact .ptr (o + i.toNat * s) hp
    · cases h
  · cases h

theorem oIndex_VR {t : TypeId} {x x' i i' v : Value} (h : oIndex P t x i = some v) (hx : VR m x x') (hi : VR m i i') (hv : closed v = true) :
    ∃ v', (Instr.index t x' i').run P w = .ok v' w ∧ VR m v v' := by
  unfold oIndex at h
  split at h
  · rename_i hc
    simp only [Bool.and_eq_true] at hc
    rw [← hx.closed_eq hc.1, ← hi.closed_eq hc.2]
    exact ⟨v, quick_run _ _ h w, closed_VR hv⟩
  · cases h

/-! #### nil, equality, numbers -/
theorem oNilCheck_VR {x x' v : Value} (h : oNilCheck x = some v) (hx : VR m x x') : v = x ∧ (x' ≠ .pointer none ∧ x' ≠ .nilIface ∧ x' ≠ .nilFunc ∧ ∀ n fs cs, x' ≠ .func (.method n) fs cs) := by
  cases hx <;> simp [oNilCheck] at h ⊢ <;> first | exact h.symm | exact h

theorem gBound_VR {x x' : Value} {y n : Nat} (h : gBound x y = some n) (hx : VR m x x') (c : BoundsCode) (w : World) : (Instr.sliceBound x' y c).run P w = .ok n w := by
  cases hx with
  | int k i =>
    simp only [gBound] at h
    split at h
    · next hi =>
      injection h with h
      subst h
      simp [Instr.sliceBound, asIntOf, hi]
    · cases h
  | _ => simp [gBound] at h
theorem gBound_le {x : Value} {y n : Nat} (h : gBound x y = some n) : n ≤ y := by
  cases x <;> simp [gBound] at h
  omega
theorem gBound_more {x : Value} {y y' n : Nat} (h : gBound x y = some n) (hy : y ≤ y') : gBound x y' = some n := by
  cases x <;> simp [gBound] at h ⊢
  omega
end
end Go.Gh
/- The ghost machine: slices of slices, aggregates, comparisons: as the model has them. -/
namespace Go.Gh
open Go.RowKit
set_option linter.unusedVariables false
set_option linter.unusedSimpArgs false
section
variable {P : Program} {m : PM} {w : World}

/-- Optional values, one by one. -/
def OptVR (m : PM) : Option Value → Option Value → Prop
  | none, none => True
  | some x, some y => VR m x y
  | _, _ => False
theorem OptVR.map {ρ ρ' : Operand → Value} {x : Option Operand} (h : ∀ y, x = some y → VR m (ρ y) (ρ' y)) : OptVR m (x.map ρ) (x.map ρ') := by
  cases x with
  | none => trivial
  | some y => exact h y rfl

/-- A bound that is there lies within y; one that is not is d. -/
def BRun (P : Program) (w : World) (x : Option Value) (y d n : Nat) : Prop :=
  match x with
  | some v => ∀ c, (Instr.sliceBound v y c).run P w = .ok n w
  | none => n = d

/-- What 'sliceBounds' comes to. -/
theorem run_sliceBounds {isS : Bool} {len cap l h m' : Nat} {lo hi mx : Option Value} (w : World)
    (hm : BRun P w mx cap cap m') (h1 : mx.isSome = true → hi.isSome = true) (hh : BRun P w hi m' len h) (hl : BRun P w lo h 0 l) :
    (Instr.sliceBounds isS len cap lo hi mx).run P w = .ok (l, h, m') w := by
  unfold Instr.sliceBounds
  cases mx with
  | none =>
    simp only [BRun] at hm
    subst hm
    cases hi with
    | none =>
      simp only [BRun] at hh
      subst hh
      cases lo with
      | none => simp only [BRun] at hl; subst hl; simp
      | some z => simp [hl .sliceB]
    | some y =>
      have e2 := hh (if isS then .sliceAcap else .sliceAlen)
      cases lo with
      | none => simp only [BRun] at hl; subst hl; simp [e2]
      | some z => simp [e2, hl .sliceB]
  | some x =>
    have e := hm (if isS then .slice3Acap else .slice3Alen)
    cases hi with
    | none => simp at h1
    | some y =>
      have e2 := hh .slice3B
      cases lo with
      | none => simp only [BRun] at hl; subst hl; simp [e, e2]
      | some z => simp [e, e2, hl .slice3C]

theorem bound_run {x x' : Option Value} {y y' d d' n : Nat} (h : optB x y d = some n) (hx : OptVR m x x') (hy : y ≤ y') (hd : x = none → n = d') :
    BRun P w x' y' d' n := by
  cases x with
  | none =>
    cases x' with
    | none => exact hd rfl
    | some x' => exact hx.elim
  | some x =>
    cases x' with
    | none => exact hx.elim
    | some x' => exact fun c => gBound_VR (gBound_more h hy) hx c w
theorem bound_le {x : Option Value} {y d n : Nat} (h : optB x y d = some n) (hd : d ≤ y) : n ≤ y := by
  cases x with
  | none => simp only [optB, Option.some.injEq] at h; omega
  | some x => exact gBound_le h
theorem OptVR.isSome_eq {x x' : Option Value} (h : OptVR m x x') : x'.isSome = x.isSome := by
  cases x <;> cases x' <;> first | rfl | exact h.elim

theorem add_if (c l size : Nat) (a : Addr) : (if c = l then some a else (some a).map (·.add (l * size))) = some (if c = l then a else a.add (l * size)) := by split <;> rfl

/-- A slice of a slice, its bounds given. -/
theorem gSliceSl_VR {size len cap : Nat} {a : Option Addr} {x' v : Value} {lo hi mx lo' hi' mx' : Option Value} (h : gSliceSl size a len cap lo hi mx = some v) (hx : VR m (.slice a len cap) x')
    (hlo : OptVR m lo lo') (hhi : OptVR m hi hi') (hmx : OptVR m mx mx') :
    ∃ a' cap', x' = .slice a' len cap' ∧ ∃ l hh mm, (∀ isS, (Instr.sliceBounds isS len cap' lo' hi' mx').run P w = .ok (l, hh, mm) w) ∧
      VR m v (.slice (if mm = l then a' else a'.map (·.add (l * size))) (hh - l) (mm - l)) := by
  cases a with
  | none =>
    have e := hx.sliceNil_inv
    subst e
    unfold gSliceSl at h
    simp only at h
    split at h
    · next hz =>
      obtain ⟨rfl, rfl, hms⟩ := hz
      split at h
      · next mm hh l e1 e2 e3 =>
        injection h with h
        subst h
        have z1 : mm = 0 := by have := bound_le e1 (Nat.le_refl 0); omega
        have z2 : hh = 0 := by have := bound_le e2 (Nat.le_refl 0); omega
        have z3 : l = 0 := by have := bound_le e3 (Nat.le_refl 0); omega
        subst z1; subst z2; subst z3
        refine ⟨none, 0, rfl, 0, 0, 0, fun isS => run_sliceBounds w (bound_run e1 hmx (Nat.le_refl _) (fun _ => rfl)) (fun h => by rw [hhi.isSome_eq]; exact hms (by rw [← hmx.isSome_eq]; exact h)) (bound_run e2 hhi (Nat.le_refl _) (fun _ => rfl)) (bound_run e3 hlo (Nat.le_refl _) (fun _ => rfl)), ?_⟩
        exact .sliceNil 0 0
      · cases h
    · cases h
  | some a =>
    rcases hx.slice_inv with ⟨rfl, rfl, b, o, A', rfl, rfl⟩ | ⟨b, p, o, o', c', rfl, hp, rfl, hnc, ho, hc⟩
    · refine ⟨_, 0, rfl, ?_⟩
      unfold gSliceSl at h
      simp only at h
      rw [if_neg (by unfold loose; omega)] at h
      split at h
      · cases h
      · next mm e1 =>
        split at h
        · cases h
        · next hh e2 =>
          split at h
          · cases h
          · next l e3 =>
            injection h with h
            subst h
            have mle := bound_le e1 (Nat.le_refl 0)
            have lle := bound_le e3 (Nat.zero_le hh)
            have hle : hh ≤ mm := by
              cases hi with
              | some x => exact gBound_le e2
              | none =>
                cases mx with
                | none =>
                  simp [optB] at e2 e1
                  omega
                | some _ => simp at e2
            refine ⟨l, hh, mm, fun isS => run_sliceBounds w (bound_run e1 hmx (Nat.le_refl _) (fun e => by subst e; simp [optB] at e1; omega)) (fun h => ?_) ?_ (bound_run e3 hlo (Nat.le_refl _) (fun e => by subst e; simp [optB] at e3; omega)), ?_⟩
            · rw [hhi.isSome_eq]
              rw [hmx.isSome_eq] at h
              cases hi with
              | some _ => rfl
              | none => simp [h] at e2
            · cases hi with
              | some x =>
                cases hi' with
                | none => exact hhi.elim
                | some x' => exact fun c => gBound_VR e2 hhi c w
              | none =>
                cases hi' with
                | some _ => exact hhi.elim
                | none =>
                  simp only at e2
                  split at e2
                  · cases e2
                  · simp only [Option.some.injEq] at e2
                    subst e2
                    rfl
            · rw [add_if]
              have z1 : mm = 0 := by omega
              have z3 : l = 0 := by omega
              have z2 : hh = 0 := by omega
              subst z1; subst z3; subst z2
              exact .sliceD _ _ _
    refine ⟨_, c', rfl, ?_⟩
    unfold gSliceSl at h
    simp only at h
    split at h
    · next hl =>
      rcases hc with ⟨hlt, _⟩ | ⟨hcap, hw⟩
      · omega
      split at h
      · next hz =>
        obtain ⟨hz, hll⟩ := hz
        have hsz : p.sz = size := by omega
        split at h
        · next _ =>
          cases mx' with
          | some _ => exact hmx.elim
          | none =>
          split at h
          · cases h
          · next hh e2 =>
            split at h
            · cases h
            · next l e3 =>
              injection h with h
              subst h
              have hle := bound_le e2 (Nat.le_refl len)
              have lle := bound_le e3 (Nat.zero_le hh)
              refine ⟨l, hh, c', fun isS => run_sliceBounds w rfl (fun h => by simp at h) (bound_run e2 hhi hnc (fun e => by subst e; simp [optB] at e2; omega)) (bound_run e3 hlo (Nat.le_refl _) (fun e => by subst e; simp [optB] at e3; omega)), ?_⟩
              rw [add_if, add_none, ← hsz]
              by_cases hcl : c' = l
              · rw [if_pos hcl]
                exact .sliceL _ _ _ _ _ hp rfl (by omega) (fun h => by omega) (fun h => by have := hw h; have e : (c' - l) * p.sz = 0 := (by rw [hcl, Nat.sub_self, Nat.zero_mul]); omega)
              · rw [if_neg hcl, add_none]
                refine .sliceL _ _ _ _ _ hp rfl (by omega) (fun h => by rw [ho (by omega)]; omega) (fun h => ?_)
                have := hw h
                have e : c' * p.sz = l * p.sz + (c' - l) * p.sz := by rw [← Nat.add_mul]; congr 1; omega
                omega
        · next mx =>
          cases mx' with
          | none => exact hmx.elim
          | some mx' =>
          split at h
          · cases h
          · next mm e1 =>
            split at h
            · cases h
            · next hi =>
              cases hi' with
              | none => exact hhi.elim
              | some hi' =>
              split at h
              · cases h
              · next hh e2 =>
                split at h
                · cases h
                · next l e3 =>
                  injection h with h
                  subst h
                  have mle := gBound_le e1
                  have hle := gBound_le e2
                  have lle := bound_le e3 (Nat.zero_le hh)
                  refine ⟨l, hh, mm, fun isS => run_sliceBounds w (fun c => gBound_VR (gBound_more e1 hnc) hmx c w) (fun _ => rfl) (fun c => gBound_VR e2 hhi c w) (bound_run e3 hlo (Nat.le_refl _) (fun e => by subst e; simp [optB] at e3; omega)), ?_⟩
                  rw [add_if]
                  by_cases hcl : mm = l
                  · rw [if_pos hcl, if_pos hcl]
                    exact .slice _ _ _ _ hp (by omega) (by omega) (fun h => by omega)
                  · rw [if_neg hcl, if_neg hcl, add_none, add_none]
                    exact .slice _ _ _ _ hp (by omega) (by omega) (fun h => by rw [ho (by omega)]; omega)
      · cases h
    · next hl =>
      have hc' : c' = cap ∧ cap < loose ∧ (0 < cap → o' = p.off + o) := by
        rcases hc with ⟨hlt, e, ho'⟩ | ⟨hcap, hw⟩
        · exact ⟨e, hlt, ho'⟩
        · omega
      obtain ⟨rfl, hlt, ho'⟩ := hc'
      split at h
      · cases h
      · next mm e1 =>
        split at h
        · cases h
        · next hh e2 =>
          split at h
          · cases h
          · next l e3 =>
            injection h with h
            subst h
            have mle := bound_le e1 (Nat.le_refl c')
            have lle := bound_le e3 (Nat.zero_le hh)
            have hle : hh ≤ mm := by
              cases hi with
              | some x => exact gBound_le e2
              | none =>
                cases mx with
                | none =>
                  simp [optB] at e2 e1
                  omega
                | some _ => simp at e2
            refine ⟨l, hh, mm, fun isS => run_sliceBounds w (bound_run e1 hmx (Nat.le_refl _) (fun e => by subst e; simp [optB] at e1; omega)) (fun h => ?_) ?_ (bound_run e3 hlo (Nat.le_refl _) (fun e => by subst e; simp [optB] at e3; omega)), ?_⟩
            · rw [hhi.isSome_eq]
              rw [hmx.isSome_eq] at h
              cases hi with
              | some _ => rfl
              | none => simp [h] at e2
            · cases hi with
              | some x =>
                cases hi' with
                | none => exact hhi.elim
                | some x' => exact fun c => gBound_VR e2 hhi c w
              | none =>
                cases hi' with
                | some _ => exact hhi.elim
                | none =>
                  simp only at e2
                  split at e2
                  · cases e2
                  · simp only [Option.some.injEq] at e2
                    subst e2
                    rfl
            · rw [add_if]
              by_cases hcl : mm = l
              · rw [if_pos hcl, if_pos hcl]
                exact .slice _ _ _ _ hp (by omega) (by omega) (fun h => by omega)
              · rw [if_neg hcl, if_neg hcl, add_none, add_none]
                exact .slice _ _ _ _ hp (by omega) (by omega) (fun h => by rw [ho' (by omega)]; omega)

theorem oSlice_VR {t : TypeId} {x x' v : Value} {lo hi mx lo' hi' mx' : Option Value} (h : oSlice P t x lo hi mx = some v) (hx : VR m x x') (hlo : OptVR m lo lo') (hhi : OptVR m hi hi') (hmx : OptVR m mx mx') :
    ∃ v', (Instr.sliceAt t x' lo' hi' mx').run P w = .ok v' w ∧ VR m v v' := by
  unfold oSlice at h
  split at h
  · next e a len cap hu =>
    split at h
    · next s hs =>
      obtain ⟨a', cap', rfl, l, hh, mm, hr, hv⟩ := gSliceSl_VR (P := P) (w := w) h hx hlo hhi hmx
      exact ⟨_, by simp [Instr.sliceAt, Instr.slice, run_underlying hu, hr true, run_sizeOf' hs], hv⟩
    · cases h
  · next n e a hu =>
    split at h
    · next s hs =>
      split at h
      · next hn =>
        obtain ⟨b, p, o, rfl, hp, rfl⟩ := hx.ptr_inv
        obtain ⟨a', cap', ha, l, hh, mm, hr, hv⟩ := gSliceSl_VR (P := P) (w := w) h (.slice (m := m) o (p.off + o) n n hp hn (Nat.le_refl _) fun _ => rfl) hlo hhi hmx
        injection ha with ha hn2 hc
        subst ha; subst hc
        refine ⟨_, ?_, hv⟩
        simp [Instr.sliceAt, run_underlying hu, Instr.sureAddr, hr false, run_sizeOf' hs]
        split <;> rfl
      · cases h
    · cases h
  · next s hu =>
    cases hx
    split at h
    · next =>
      cases mx' with
      | some _ => exact hmx.elim
      | none =>
      split at h
      · cases h
      · next hh hb =>
        obtain ⟨l, hl, rfl⟩ := Option.map_eq_some_iff.1 h
        refine ⟨.string (s.extract l hh), ?_, .string _⟩
        have hr := run_sliceBounds (P := P) (isS := false) (len := s.size) (cap := s.size) (mx := none) w rfl (fun h => by simp at h) (bound_run hb hhi (Nat.le_refl _) (fun e => by subst e; simp [optB] at hb; omega)) (bound_run hl hlo (Nat.le_refl _) (fun e => by subst e; simp [optB] at hl; omega))
        simp [Instr.sliceAt, Instr.slice, run_underlying hu, hr]
    · cases h
  · cases h

/-! #### Aggregates -/
theorem fold_set (vs : List Value) : ∀ (cells : Array Value) (off j : Nat), off + j + vs.length ≤ cells.size →
    ((vs.zipIdx j).foldl (fun cs (x : Value × Nat) => cs.setIfInBounds (off + x.2) x.1) cells).toList = cells.toList.take (off + j) ++ vs ++ cells.toList.drop (off + j + vs.length) := by
  induction vs with
  | nil => intro cells off j _; simp
  | cons v vs ih =>
    intro cells off j h
    simp only [List.length_cons] at h
    simp only [List.zipIdx_cons, List.foldl_cons]
    rw [ih _ off (j + 1) (by simp; omega)]
    simp only [Array.toList_setIfInBounds, List.length_cons]
    have e1 : (cells.toList.set (off + j) v).take (off + (j + 1)) = cells.toList.take (off + j) ++ [v] := by
      rw [← Nat.add_assoc, List.take_succ_eq_append_getElem (by simp; omega), List.take_set_of_le (Nat.le_refl _)]
      simp
    have e2 : (cells.toList.set (off + j) v).drop (off + (j + 1) + vs.length) = cells.toList.drop (off + j + (vs.length + 1)) := by
      rw [List.drop_set_of_lt (by omega)]
      congr 1
      omega
    rw [e1, e2]
    simp

theorem gFill_VR {place : Nat → Option (Nat × Nat)} : ∀ (parts parts' : List (Nat × Value)) (cells : List Value) (cells' : Array Value) (r : List Value), gFill place cells parts = some r →
    parts.length = parts'.length → (∀ (i : Nat) (x y : Nat × Value), parts[i]? = some x → parts'[i]? = some y → x.1 = y.1 ∧ VR m x.2 y.2) → VRs m cells cells'.toList →
    ∃ r', Instr.fill place cells' parts' = some r' ∧ VRs m r r'.toList := by
  intro parts
  induction parts with
  | nil =>
    intro parts' cells cells' r h hl _ hc
    cases parts' with
    | nil => simp only [gFill, Option.some.injEq] at h; subst h; exact ⟨cells', rfl, hc⟩
    | cons _ _ => simp at hl
  | cons x parts ih =>
    intro parts' cells cells' r h hl hp hc
    cases parts' with
    | nil => simp at hl
    | cons y parts' =>
      obtain ⟨i, v⟩ := x
      obtain ⟨i', v'⟩ := y
      obtain ⟨hi, hv⟩ := hp 0 (i, v) (i', v') rfl rfl
      simp only at hi hv
      subst hi
      simp only [gFill] at h
      simp only [Instr.fill]
      split at h
      · cases h
      · next off size hpl =>
        split at h
        · cases h
        · next hok =>
          have hvl := hv.cells
          have e1 : v'.cells.size = v.cells.toList.length := by rw [hvl.1]; simp
          have e2 : cells'.size = cells.length := by rw [hc.1]; simp
          rw [hpl]
          simp only
          rw [if_neg (by rw [e1, e2]; simp only [not_or, Decidable.not_not, Nat.not_lt] at hok; simp only [Bool.or_eq_true, decide_eq_true_eq, not_or, Decidable.not_not]; exact ⟨hok.1, by have := hok.2; omega⟩)]
          refine ih parts' _ _ r h (by simpa using hl) (fun j a b ha hb => hp (j + 1) a b (by simpa using ha) (by simpa using hb)) ?_
          have hf := fold_set v'.cells.toList cells' off 0 (by rw [Array.length_toList, e1, e2]; simp only [not_or, Decidable.not_not, Nat.not_lt] at hok; have := hok.2; omega)
          have ez : (Array.foldl (fun cs (x : Value × Nat) => cs.setIfInBounds (off + x.2) x.1) cells' v'.cells.zipIdx) = ((v'.cells.toList.zipIdx 0).foldl (fun cs (x : Value × Nat) => cs.setIfInBounds (off + x.2) x.1) cells') := by
            rw [← Array.foldl_toList, Array.toList_zipIdx]
          have ez2 : (Array.foldl (fun cs (x : Value × Nat) => match x with | (c, j) => cs.setIfInBounds (off + j) c) cells' v'.cells.zipIdx) = (Array.foldl (fun cs (x : Value × Nat) => cs.setIfInBounds (off + x.2) x.1) cells' v'.cells.zipIdx) := rfl
          rw [ez2, ez, hf]
          simp only [Nat.add_zero]
          rw [show v'.cells.toList.length = v.cells.toList.length from hvl.1.symm]
          exact ((hc.take off).append hvl).append (hc.drop _)

/-! #### Comparisons, numbers -/
theorem run_eqGuard_int (op : BinOp) (t : TypeId) (x y : Operand) (k k' : IntKind) (a b : Int) (w : World) : (eqGuard op t x y (.int k a) (.int k' b)).run P w = .ok () w := by
  unfold eqGuard; cases op <;> rfl
theorem run_eqGuard_bool (op : BinOp) (t : TypeId) (x y : Operand) (a b : Bool) (w : World) : (eqGuard op t x y (.bool a) (.bool b)).run P w = .ok () w := by
  unfold eqGuard; cases op <;> rfl
theorem run_eqGuard_string (op : BinOp) (t : TypeId) (x y : Operand) (a b : ByteArray) (w : World) : (eqGuard op t x y (.string a) (.string b)).run P w = .ok () w := by
  unfold eqGuard; cases op <;> rfl
theorem run_eqGuard_agg (op : BinOp) (t : TypeId) (x y : Operand) (a b : Array Value) (h : P.eqGuardType P.depth t = false) (w : World) : (eqGuard op t x y (.agg a) (.agg b)).run P w = .ok () w := by
  unfold eqGuard; cases op <;> simp [h]
theorem run_eqGuard_other (op : BinOp) (t : TypeId) (x y : Operand) (u v : Value) (h : gNilFits P t u = true) (w : World) : (eqGuard op t x y u v).run P w = .ok () w := by
  unfold eqGuard
  cases u <;> first | (simp [gNilFits] at h; done) | (cases op <;> rfl)

theorem gArith_run {op : BinOp} {k : IntKind} {a b : Int} {v : Value} (h : gArith op k a b = some v) (t : TypeId) (w : World) : (binOp op t (.int k a) (.int k b)).run P w = .ok v w ∧ closed v = true := by
  cases op <;> simp [gArith] at h <;> subst h <;> refine ⟨?_, rfl⟩ <;> simp [binOp, Op.intArith, Op.intCmp]

theorem gNilEq_run {t : TypeId} {u v u' v' : Value} {r : Bool} (h : gNilEq u v = some r) (hu : VR m u u') (hv : VR m v v') (hf : gNilFits P t u = true) (w : World) : (Op.equal t u' v').run P w = .ok r w := by
  have key : ∀ d (n : Nat), P.underlying t = some d → (Op.equalIn (n + 1) t u' v').run P w = .ok r w := by
    intro d n hd
    cases hu <;> simp only [gNilFits, hd] at hf <;> (cases d <;> simp at hf) <;> cases hv <;> simp [gNilEq] at h <;> subst h <;> simp [Op.equalIn, run_underlying hd]
  cases hd : P.underlying t with
  | none => cases u <;> simp [gNilFits, hd] at hf
  | some d => exact key d 9999 hd

theorem oBin_VR {op : BinOp} {t : TypeId} {u v u' v' r : Value} (h : oBin P op t u v = some r) (hu : VR m u u') (hv : VR m v v') (hr : closed r = true) (x y : Operand) :
    (do eqGuard op t x y u' v'; binOp op t u' v' : Sem Value).run P w = .ok r w := by
  unfold oBin at h
  split at h
  · next k a k' b =>
    have e1 := hu.int_inv; have e2 := hv.int_inv
    subst e1; subst e2
    simp only [Sem.run_bind, run_eqGuard_int, Result.andThen_ok]
    split at h
    · next hk =>
      subst hk
      split at h
      · next q hq =>
        injection h with h; subst h
        exact (gArith_run hq t w).1
      · exact quick_run _ _ h w
    · exact quick_run _ _ h w
  · next a b =>
    have e1 := hu.closed0_eq rfl; have e2 := hv.closed0_eq rfl
    subst e1; subst e2
    simp only [Sem.run_bind, run_eqGuard_bool, Result.andThen_ok]
    exact quick_run _ _ h w
  · next a b =>
    have e1 := hu.closed0_eq rfl; have e2 := hv.closed0_eq rfl
    subst e1; subst e2
    simp only [Sem.run_bind, run_eqGuard_string, Result.andThen_ok]
    exact quick_run _ _ h w
  · next a b =>
    split at h
    · next hc =>
      simp only [Bool.and_eq_true, Bool.not_eq_true'] at hc
      have e1 := hu.closed_eq hc.1.1.1; have e2 := hv.closed_eq hc.1.1.2
      subst e1; subst e2
      simp only [Sem.run_bind, run_eqGuard_agg op t x y a b hc.2, Result.andThen_ok]
      exact quick_run _ _ h w
    · cases h
  · next =>
    split at h
    · next hc =>
      simp only [Bool.and_eq_true] at hc
      have hf' : gNilFits P t u' = true := by
        have := hc.1
        cases hu <;> first | exact this | (simp [gNilFits] at this; done)
      simp only [Sem.run_bind, run_eqGuard_other op t x y u' v' hf', Result.andThen_ok]
      have hop : ∀ q, gNilEq u v = some q → (binOp .eql t u' v').run P w = .ok (.bool q) w ∧ (binOp .neq t u' v').run P w = .ok (.bool !q) w := by
        intro q hq
        have e := gNilEq_run hq hu hv hc.1 w
        cases hu <;> simp [gNilFits] at hf' <;> cases hv <;> simp [gNilEq] at hq <;> subst hq <;> refine ⟨?_, ?_⟩ <;> simp [binOp, e]
      split at h
      · obtain ⟨q, hq, rfl⟩ := Option.map_eq_some_iff.1 h
        exact (hop q hq).1
      · obtain ⟨q, hq, rfl⟩ := Option.map_eq_some_iff.1 h
        exact (hop q hq).2
      · cases h
    · cases h

theorem oUn_VR {op : UnOp} {u u' r : Value} (h : oUn P op u = some r) (hu : VR m u u') : (Op.unary op u').run P w = .ok r w := by
  unfold oUn at h
  split at h
  · next hc => rw [← hu.closed_eq hc]; exact quick_run _ _ h w
  · cases h
theorem oConvert_VR {src dst : TypeId} {u u' r : Value} (h : oConvert P src dst u = some r) (hu : VR m u u') : (convert src dst u').run P w = .ok r w := by
  unfold oConvert at h
  split at h
  · next hc => rw [← hu.closed_eq hc]; exact quick_run _ _ h w
  · cases h
theorem oLen_VR {t : TypeId} {u u' r : Value} (h : oLen P t u = some r) (hu : VR m u u') (ty : TypeId) : (Builtin.len_ #[t] ty #[u']).run P w = .ok r w := by
  unfold oLen at h
  split at h
  · next hd =>
    injection h with h; subst h
    cases hu <;> simp [Builtin.len_, run_underlying hd, goInt]
  · next hd =>
    injection h with h; subst h
    cases hu <;> simp [Builtin.len_, run_underlying hd, goInt]
  · next hd =>
    injection h with h; subst h
    cases hu; simp [Builtin.len_, run_underlying hd, goInt]
  · cases h
theorem oCap_VR {t : TypeId} {u u' r : Value} (h : oCap P t u = some r) (hu : VR m u u') (ty : TypeId) : (Builtin.cap_ #[t] ty #[u']).run P w = .ok r w := by
  unfold oCap at h
  split at h
  · next n hd =>
    split at h
    · next hn =>
      injection h with h; subst h
      cases hu with
      | sliceNil => simp [Builtin.cap_, run_underlying hd, goInt]
      | slice => simp [Builtin.cap_, run_underlying hd, goInt]
      | sliceL => omega
      | sliceD => simp [Builtin.cap_, run_underlying hd, goInt]
    · cases h
  · next hd =>
    injection h with h; subst h
    cases hu <;> simp [Builtin.cap_, run_underlying hd, goInt]
  · cases h

theorem fill_congr {p q : Nat → Option (Nat × Nat)} (h : ∀ i, p i = q i) (cells : Array Value) (l : List (Nat × Value)) : Instr.fill p cells l = Instr.fill q cells l := by rw [show p = q from funext h]

theorem gParts_VR {ρ ρ' : Operand → Value} {parts : Array (Nat × Operand)} (h : ∀ x ∈ parts.toList, VR m (ρ x.2) (ρ' x.2)) :
    (gParts ρ parts).length = (parts.map fun (i, x) => (i, ρ' x)).toList.length ∧ ∀ (i : Nat) (x y : Nat × Value), (gParts ρ parts)[i]? = some x → (parts.map fun (i, x) => (i, ρ' x)).toList[i]? = some y → x.1 = y.1 ∧ VR m x.2 y.2 := by
  refine ⟨by simp [gParts], fun i x y hx hy => ?_⟩
  simp only [gParts, List.getElem?_map, Array.toList_map, Option.map_eq_some_iff] at hx hy
  obtain ⟨a, ha, rfl⟩ := hx
  obtain ⟨b, hb, rfl⟩ := hy
  rw [ha] at hb
  injection hb with e
  subst e
  exact ⟨rfl, h a (List.mem_of_getElem? ha)⟩

theorem run_mapM_places (fs : Array Field) (places : List (Nat × Nat)) (h : fs.toList.mapM (m := Option) (fun f => (gSize P f.type).map fun s => (f.offset, s)) = some places) (w : World) :
    (fs.mapM (m := Sem) fun f => do pure (f.offset, ← sizeOf f.type)).run P w = .ok places.toArray w := by
  have key : ∀ (l : List Field) (ps : List (Nat × Nat)), l.mapM (m := Option) (fun f => (gSize P f.type).map fun s => (f.offset, s)) = some ps →
      (l.mapM (m := Sem) fun f => do pure (f.offset, ← sizeOf f.type)).run P w = .ok ps w := by
    intro l
    induction l with
    | nil => intro ps h; simp at h; subst h; rfl
    | cons f l ih =>
      intro ps h
      rw [List.mapM_cons] at h
      simp only [Option.bind_eq_bind, Option.bind_eq_some_iff, Option.map_eq_some_iff, Option.pure_def, Option.some.injEq] at h
      obtain ⟨x, ⟨s, hs, rfl⟩, ys, hys, rfl⟩ := h
      rw [List.mapM_cons]
      have e := ih ys hys
      simp only [bind_pure_comp] at e
      simp [run_sizeOf' hs, e]
  have e := key fs.toList places h
  rw [← Array.toArray_toList (xs := fs)]
  rw [List.mapM_toArray]
  simp only [Sem.run_map, e, Result.andThen_ok]

theorem oBuild_VR {t : TypeId} {ρ ρ' : Operand → Value} {parts : Array (Nat × Operand)} {v : Value} (h : oBuild P t (gParts ρ parts) = some v) (hp : ∀ x ∈ parts.toList, VR m (ρ x.2) (ρ' x.2)) :
    ∃ v', (Instr.build t (parts.map fun (i, x) => (i, ρ' x))).run P w = .ok v' w ∧ VR m v v' := by
  obtain ⟨pl, pv⟩ := gParts_VR hp
  unfold oBuild at h
  split at h
  · next z fs hz hu =>
    obtain ⟨_, _, _, hcl⟩ := gZero_some hz
    split at h
    · next places hpl =>
      obtain ⟨cs, hcs, rfl⟩ := Option.map_eq_some_iff.1 h
      obtain ⟨r', hr, hv⟩ := gFill_VR _ _ _ z.cells _ hcs pl pv (closed_VR hcl).cells
      refine ⟨.agg r', ?_, by have := VR.aggA (cs := cs.toArray) (ds := r') (by simpa using hv); exact this⟩
      have hr2 : Instr.fill (fun x => places.toArray[x]?) z.cells (parts.map fun (i, x) => (i, ρ' x)).toList = some r' := by
        rw [← hr]; exact fill_congr (fun i => by simp) _ _
      simp only [Instr.build, Sem.run_bind, run_zeroValue' hz, run_underlying hu, Result.andThen_ok, run_mapM_places fs places hpl, hr2, Sem.run_pure]
    · cases h
  · next z n e hz hu =>
    obtain ⟨_, _, _, hcl⟩ := gZero_some hz
    split at h
    · next s hs =>
      obtain ⟨cs, hcs, rfl⟩ := Option.map_eq_some_iff.1 h
      obtain ⟨r', hr, hv⟩ := gFill_VR _ _ _ z.cells _ hcs pl pv (closed_VR hcl).cells
      refine ⟨.agg r', ?_, by have := VR.aggA (cs := cs.toArray) (ds := r') (by simpa using hv); exact this⟩
      simp only [Instr.build, Sem.run_bind, run_zeroValue' hz, run_underlying hu, Result.andThen_ok, run_sizeOf' hs, hr, Sem.run_pure]
    · cases h
  · cases h
end
end Go.Gh
