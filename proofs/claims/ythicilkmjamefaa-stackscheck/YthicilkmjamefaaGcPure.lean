/- The ghost machine: the operations on values come to what the model's come to. -/
import Derived.Test.YthicilkmjamefaaGbRel
import Derived.Laws.Entries
namespace Go.Gh
open Go.RowKit
set_option linter.unusedVariables false
set_option linter.unusedSimpArgs false

theorem quick_run {α : Type} {P : Program} : ∀ (s : Sem α) (a : α), quick P s = some a → ∀ w, s.run P w = .ok a w := by
  intro s
  induction s with
  | pure a => intro b h w; simp only [quick] at h; injection h with h; subst h; rfl
  | program k ih => intro b h w; simp only [quick] at h; exact ih P b h w
  | mark m k ih => intro b h w; simp only [quick] at h; exact ih b h w
  | _ => intro b h; simp [quick] at h

section
variable {P : Program} {m : PM} {w : World}

theorem add_none (b o n : Nat) : (⟨b, o, none⟩ : Addr).add n = ⟨b, o + n, none⟩ := by
  unfold Addr.add
  split
  · rename_i h; subst h; rfl
  · rfl
theorem gSize_some {t : TypeId} {s : Nat} (h : gSize P t = some s) : ∃ i, P.info? t = some i ∧ i.size = s := by
  unfold gSize at h
  obtain ⟨i, hi, hs⟩ := Option.map_eq_some_iff.1 h
  exact ⟨i, hi, hs⟩
theorem run_sizeOf' {t : TypeId} {s : Nat} (h : gSize P t = some s) (w : World) : (sizeOf t).run P w = .ok s w := by
  obtain ⟨i, hi, rfl⟩ := gSize_some h
  simp [sizeOf, typeInfo, hi]
theorem run_isAgg {t : TypeId} {d : TypeDesc} (h : P.underlying t = some d) (w : World) : (isAgg t).run P w = .ok (gIsAgg P t) w := by
  unfold gIsAgg
  rw [h]
  cases d <;> simp [isAgg, run_underlying h]
theorem gZero_some {t : TypeId} {z : Value} (h : gZero P t = some z) : ∃ i, P.info? t = some i ∧ i.zero = some z ∧ closed z = true := by
  unfold gZero at h
  cases hi : P.info? t with
  | none => rw [hi] at h; simp at h
  | some i =>
    rw [hi] at h
    simp only [Option.bind_some] at h
    cases hz : i.zero with
    | none => rw [hz] at h; simp at h
    | some z' =>
      rw [hz] at h
      simp only at h
      split at h
      · injection h with h; subst h
        exact ⟨i, rfl, hz, by assumption⟩
      · cases h
theorem run_zeroValue' {t : TypeId} {z : Value} (h : gZero P t = some z) (w : World) : (zeroValue t).run P w = .ok z w := by
  obtain ⟨i, hi, hz, _⟩ := gZero_some h
  simp [zeroValue, typeInfo, hi, hz]

theorem oPick_VR {c c' a a' b b' v : Value} (h : oPick c a b = some v) (hc : VR m c c') (ha : VR m a a') (hb : VR m b b') :
    ∃ v', (do pure (if ← asBool c' then a' else b') : Sem Value).run P w = .ok v' w ∧ VR m v v' := by
  cases hc with
  | bool t =>
    simp only [oPick] at h
    injection h with h
    subst h
    cases t
    · exact ⟨b', by simp [asBool], hb⟩
    · exact ⟨a', by simp [asBool], ha⟩
  | _ => simp [oPick] at h

theorem oExtract_VR {x x' v : Value} {i : Nat} (h : oExtract x i = some v) (hx : VR m x x') : ∃ v', (Instr.extract x' i).run P w = .ok v' w ∧ VR m v v' := by
  cases hx with
  | tuple cs ds h3 h4 =>
    simp only [oExtract] at h
    obtain ⟨u, hu, hr⟩ := (VRs.toArr h3 h4).get? (i := i) (u := v) (by rw [Array.getElem?_toList]; exact h)
    rw [Array.getElem?_toList] at hu
    exact ⟨u, by simp [Instr.extract, hu], hr⟩
  | _ => simp [oExtract] at h

theorem oIface_VR {t : TypeId} {x x' v : Value} (h : oIface P t x = some v) (hx : VR m x x') : ∃ v', (Instr.makeInterface t x').run P w = .ok v' w ∧ VR m v v' := by
  unfold oIface at h
  cases hu : P.underlying t with
  | none => rw [hu] at h; simp at h
  | some d =>
    rw [hu] at h
    cases d <;> first
      | (simp at h; done)
      | (simp only [Option.some.injEq] at h; subst h; exact ⟨.iface t x', by simp [Instr.makeInterface, run_underlying hu], .iface t hx⟩)

theorem VR.ptr_inv {a : Addr} {x : Value} (h : VR m (.pointer (some a)) x) : ∃ b p o, a = ⟨b, o, none⟩ ∧ m b = some p ∧ x = .pointer (some ⟨p.blk, p.off + o, none⟩) := by
  cases h with
  | ptr o hp => exact ⟨_, _, o, rfl, hp, rfl⟩
theorem VR.slice_inv {a : Addr} {n c : Nat} {x : Value} (h : VR m (.slice (some a) n c) x) : (n = 0 ∧ c = 0 ∧ ∃ b o A, a = ⟨b, o, none⟩ ∧ x = .slice (some A) 0 0) ∨
    ∃ b p o o' c', a = ⟨b, o, none⟩ ∧ m b = some p ∧ x = .slice (some ⟨p.blk, o', none⟩) n c' ∧ n ≤ c' ∧ (0 < n → o' = p.off + o) ∧
    ((c < loose ∧ c' = c ∧ (0 < c → o' = p.off + o)) ∨ (c = loose + p.sz ∧ (p.rw = true → o' + c' * p.sz ≤ p.tot))) := by
  cases h with
  | slice o o' n c hp hc hn ho => exact .inr ⟨_, _, o, o', _, rfl, hp, rfl, hn, fun h => ho (by omega), .inl ⟨hc, rfl, ho⟩⟩
  | sliceL o o' n c c' hp hc hn ho hw => exact .inr ⟨_, _, o, _, _, rfl, hp, rfl, hn, ho, .inr ⟨hc, hw⟩⟩
  | sliceD b o A => exact .inl ⟨rfl, rfl, b, o, A, rfl, rfl⟩
theorem VR.int_inv {k : IntKind} {n : Int} {x : Value} (h : VR m (.int k n) x) : x = .int k n := by cases h; rfl
theorem VR.agg_inv {cs : Array Value} {x : Value} (h : VR m (.agg cs) x) : ∃ ds, x = .agg ds ∧ VRs m cs.toList ds.toList := by
  cases h with
  | agg cs ds h3 h4 => exact ⟨ds, rfl, VRs.toArr h3 h4⟩
theorem VR.sliceNil_inv {n c : Nat} {x : Value} (h : VR m (.slice none n c) x) : x = .slice none n c := by cases h; rfl

theorem oFieldAddr_VR {s : TypeId} {x x' v : Value} {f : Nat} (h : oFieldAddr P s x f = some v) (hx : VR m x x') : ∃ v', (Instr.fieldAt s x' f).run P w = .ok v' w ∧ VR m v v' := by
  unfold oFieldAddr at h
  split at h
  · next fs a hu =>
    split at h
    · next fd hf =>
      split at h
      · next n hs =>
        injection h with h
        subst h
        obtain ⟨b, p, o, rfl, hp, rfl⟩ := hx.ptr_inv
        refine ⟨.pointer (some ⟨p.blk, p.off + (o + fd.offset), none⟩), ?_, ?_⟩
        · simp [Instr.fieldAt, run_underlying hu, hf, Instr.sureAddr, fieldPlace, run_sizeOf' hs, add_none, Nat.add_assoc]
        · rw [add_none]; exact .ptr (o + fd.offset) hp
      · cases h
    · cases h
  · cases h

theorem gPart_VR {t : TypeId} {cs ds : Array Value} {off : Nat} {v : Value} (h : gPart P t cs off = some v) (hx : VRs m cs.toList ds.toList) :
    ∃ v', (part t ds off).run P w = .ok v' w ∧ VR m v v' := by
  unfold gPart at h
  cases hu : P.underlying t with
  | none => rw [hu] at h; cases h
  | some d =>
    rw [hu] at h
    simp only at h
    split at h
    · rename_i hag
      cases hs : gSize P t with
      | none => rw [hs] at h; cases h
      | some s =>
        rw [hs] at h
        simp only [Option.map_some, Option.some.injEq] at h
        subst h
        refine ⟨.agg (ds.extract off (off + s)), by simp [part, run_isAgg hu, hag, run_sizeOf' hs], .aggA ?_⟩
        rw [Array.toList_extract, Array.toList_extract]
        exact (hx.drop off).take _
    · rename_i hag
      have hag : gIsAgg P t = false := by simpa using hag
      obtain ⟨u, hu', hr⟩ := hx.get? (i := off) (u := v) (by rw [Array.getElem?_toList]; exact h)
      rw [Array.getElem?_toList] at hu'
      exact ⟨u, by simp [part, run_isAgg hu, hag, hu'], hr⟩

theorem oField_VR {t : TypeId} {x x' v : Value} {f : Nat} (h : oField P t x f = some v) (hx : VR m x x') : ∃ v', (Instr.field t x' f).run P w = .ok v' w ∧ VR m v v' := by
  unfold oField at h
  split at h
  · next fs cs hu =>
    split at h
    · next fd hf =>
      obtain ⟨ds, rfl, hd⟩ := hx.agg_inv
      obtain ⟨v', hv, hr⟩ := gPart_VR (w := w) h hd
      exact ⟨v', by simp [Instr.field, run_underlying hu, hf, asAgg, hv], hr⟩
    · cases h
  · cases h

theorem oIndexAddr_VR {t : TypeId} {x x' i i' v : Value} (h : oIndexAddr P t x i = some v) (hx : VR m x x') (hi : VR m i i') :
    ∃ v', (Instr.indexAt t x' i').run P w = .ok v' w ∧ VR m v v' := by
  unfold oIndexAddr at h
  split at h
  · next e a len cap k i hu =>
    split at h
    · next hlt =>
      obtain ⟨s, hs, rfl⟩ := Option.map_eq_some_iff.1 h
      have ei := hi.int_inv
      subst ei
      obtain ⟨b, p, o, o', c', rfl, hp, rfl, _, ho, _⟩ := hx.slice_inv.resolve_left (fun ⟨h0, _⟩ => by omega)
      have e := ho (by omega)
      subst e
      refine ⟨.pointer (some ⟨p.blk, p.off + (o + i.toNat * s), none⟩), ?_, ?_⟩
      · simp [Instr.indexAt, run_underlying hu, asIntOf, hlt, run_sizeOf' hs, add_none, Nat.add_assoc]
      · rw [add_none]; exact .ptr (o + i.toNat * s) hp
    · cases h
  · next len e a k i hu =>
    split at h
    · next hlt =>
      obtain ⟨s, hs, rfl⟩ := Option.map_eq_some_iff.1 h
      have ei := hi.int_inv
      subst ei
      obtain ⟨b, p, o, rfl, hp, rfl⟩ := hx.ptr_inv
      refine ⟨.pointer (some ⟨p.blk, p.off + (o + i.toNat * s), none⟩), ?_, ?_⟩
      · simp [Instr.indexAt, run_underlying hu, asIntOf, Instr.sureAddr, hlt, run_sizeOf' hs, add_none, Nat.add_assoc]
      · rw [add_none]; exact .ptr (o + i.toNat * s) hp
    · cases h
  · cases h

theorem oIndex_VR {t : TypeId} {x x' i i' v : Value} (h : oIndex P t x i = some v) (hx : VR m x x') (hi : VR m i i') (hv : closed v = true) :
    ∃ v', (Instr.index t x' i').run P w = .ok v' w ∧ VR m v v' := by
  unfold oIndex at h
  split at h
  · rename_i hc
    simp only [Bool.and_eq_true] at hc
    rw [← hx.closed_eq hc.1, ← hi.closed_eq hc.2]
    exact ⟨v, quick_run _ _ h w, closed_VR hv⟩
  · cases h

/-! #### nil, equality, numbers -/
theorem oNilCheck_VR {x x' v : Value} (h : oNilCheck x = some v) (hx : VR m x x') : v = x ∧ (x' ≠ .pointer none ∧ x' ≠ .nilIface ∧ x' ≠ .nilFunc ∧ ∀ n fs cs, x' ≠ .func (.method n) fs cs) := by
  cases hx <;> simp [oNilCheck] at h ⊢ <;> first | exact h.symm | exact h

theorem gBound_VR {x x' : Value} {y n : Nat} (h : gBound x y = some n) (hx : VR m x x') (c : BoundsCode) (w : World) : (Instr.sliceBound x' y c).run P w = .ok n w := by
  cases hx with
  | int k i =>
    simp only [gBound] at h
    split at h
    · next hi =>
      injection h with h
      subst h
      simp [Instr.sliceBound, asIntOf, hi]
    · cases h
  | _ => simp [gBound] at h
theorem gBound_le {x : Value} {y n : Nat} (h : gBound x y = some n) : n ≤ y := by
  cases x <;> simp [gBound] at h
  omega
theorem gBound_more {x : Value} {y y' n : Nat} (h : gBound x y = some n) (hy : y ≤ y') : gBound x y' = some n := by
  cases x <;> simp [gBound] at h ⊢
  omega
end
end Go.Gh
