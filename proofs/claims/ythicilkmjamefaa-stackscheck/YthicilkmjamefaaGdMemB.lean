/- The ghost machine: rows that are made, append, copy, clear. -/
import Derived.Test.YthicilkmjamefaaGdMem
namespace Go.Gh
open Go.RowKit
set_option linter.unusedVariables false
set_option linter.unusedSimpArgs false
section
variable {P : Program} {base : Nat} {m : PM} {H : GH} {w : World}

/-- What an operation that makes or turns memory comes to. -/
def StepV (P : Program) (base : Nat) (m : PM) (H : GH) (w : World) (s : Sem Value) (v : Value) (H' : GH) : Prop :=
  ∃ v' w' m', s.run P w = .ok v' w' ∧ VR m' v v' ∧ Rel P base m' H' w' ∧ Go1 base m m' H H' w w'
def StepU (P : Program) (base : Nat) (m : PM) (H : GH) (w : World) (s : Sem Unit) (H' : GH) : Prop :=
  ∃ w' m', s.run P w = .ok () w' ∧ Rel P base m' H' w' ∧ Go1 base m m' H H' w w'

theorem info_size {t : TypeId} {i : TypeInfo} (h : P.info? t = some i) : gSize P t = some i.size := by simp [gSize, h]
theorem gZero_size {t : TypeId} {z : Value} (h : gZero P t = some z) : ∃ s, gSize P t = some s := by
  obtain ⟨i, hi, _, _⟩ := gZero_some h
  exact ⟨i.size, info_size hi⟩

theorem gAlloc_step {e : TypeId} {z : Value} (h : gZero P e = some z) (hR : Rel P base m H w) (hb : base ≤ w.heap.size) :
    StepV P base m H w (Instr.alloc e true (.tuple #[])) (.pointer (some ⟨H.n, 0, none⟩)) (H.push (.row z.cells.toList e false)) := by
  obtain ⟨i, hi, _, hcl⟩ := gZero_some h
  obtain ⟨m', hm, _, h1, h2⟩ := hR.newRow hb e _ (info_size hi) z.cells.toList z.cells (VRs.arr? (closed_VR hcl).cells)
  refine ⟨_, _, m', ?_, .ptr 0 hm, h1, h2⟩
  simp [Instr.alloc, run_zeroValue' h, newVar, newRow]

theorem gBox_step {e : TypeId} {v v' : Value} {s : Nat} (hs : gSize P e = some s) (hv : VR m v v') (hR : Rel P base m H w) (hb : base ≤ w.heap.size) :
    StepV P base m H w (Instr.box e v') (.pointer (some ⟨H.n, 0, none⟩)) (H.push (.row v.cells.toList e false)) := by
  obtain ⟨m', hm, _, h1, h2⟩ := hR.newRow hb e s hs v.cells.toList v'.cells (VRs.arr? hv.cells)
  refine ⟨_, _, m', ?_, .ptr 0 hm, h1, h2⟩
  simp [Instr.box, newVar, newRow]

theorem gMakeSlice_step {t : TypeId} {l l' c c' v : Value} {H' : GH} (h : gMakeSlice P t l c H = some (v, H')) (hl : VR m l l') (hc : VR m c c') (hR : Rel P base m H w) (hb : base ≤ w.heap.size) :
    StepV P base m H w (Instr.makeSlice t l' c') v H' := by
  unfold gMakeSlice at h
  split at h
  · next e k l k' c hu =>
    have e1 := hl.int_inv; have e2 := hc.int_inv
    subst e1; subst e2
    split at h
    · next i z hi hz =>
      split at h
      · next hok =>
        obtain ⟨h0, hlc, hroom, hzs, hpos⟩ := hok
        simp only [Option.some.injEq, Prod.mk.injEq] at h
        obtain ⟨rfl, rfl⟩ := h
        obtain ⟨i', hi', _, hcl⟩ := gZero_some hz
        simp only [roomy, Bool.and_eq_true, decide_eq_true_eq] at hroom
        have hcells : (madeCells z.cells (c.toNat * i.size)).toList = repeated z.cells.toList c.toNat := by rw [← hzs]; exact repeated_eq z.cells c.toNat
        obtain ⟨m', hm, _, h1, h2⟩ := hR.newRow hb e i.size (info_size hi) (repeated z.cells.toList c.toNat) (madeCells z.cells (c.toNat * i.size)) (VRs.arr? (by rw [hcells]; exact repeated_VRs (closed_cells hcl) _))
        have hc40 : c ≤ 1099511627776 := by omega
        have hw1 : IntKind.i64.wrap l = l := by rw [show IntKind.i64.wrap l = _ from rfl]; simp [IntKind.wrap, IntKind.bits, IntKind.signed]; omega
        have hw2 : IntKind.i64.wrap c = c := by rw [show IntKind.i64.wrap c = _ from rfl]; simp [IntKind.wrap, IntKind.bits, IntKind.signed]; omega
        have hbytes : ((i.bytes : Int) * c) ≤ 1099511627776 := by
          have e : ((c.toNat * i.bytes : Nat) : Int) = c * i.bytes := by rw [Int.natCast_mul, Int.toNat_of_nonneg (by omega)]
          have := hroom.1
          have e2 : (i.bytes : Int) * c = c * i.bytes := Int.mul_comm _ _
          omega
        have hbytes0 : 0 ≤ (i.bytes : Int) * c := Int.mul_nonneg (by omega) (by omega)
        refine ⟨.slice (some ⟨w.heap.size, 0, none⟩) l.toNat c.toNat, _, m', ?_, ?_, h1, h2⟩
        · have hmade : madeCells z.cells (c.toNat * i.size) = (Array.range (c.toNat * i.size)).map (z.cells[· % z.cells.size]!) := rfl
          have htl : ¬ (c < 0 ∨ (i.bytes : Int) * c > 2 ^ 48) := by
            have : (2 : Int) ^ 48 = 281474976710656 := rfl
            omega
          unfold Instr.makeSlice
          simp only [Sem.run_bind, run_underlying hu, Result.andThen_ok, asInt, asIntOf, Sem.run_pure, typeInfo, run_program, hi, hw1, hw2, run_askRoom, run_sizeOf' (info_size hi)]
          rw [Sem.run_ite, if_neg (by simp only [Bool.or_eq_true, decide_eq_true_eq, gt_iff_lt] at htl ⊢; omega)]
          simp [newRow, run_askRoom, run_sizeOf' (info_size hi)]
          split
          · next he => simp [madeCells, he, show Array.range 0 = (#[] : Array Nat) from rfl]
          · next he => simp [run_zeroValue' hz, hmade]
        · exact .slice 0 0 _ _ hm (by unfold loose; omega) (by omega) (fun _ => rfl)
      · cases h
    · cases h
  · cases h

theorem gBuildSlice_step {t : TypeId} {len : Nat} {ρ ρ' : Operand → Value} {parts : Array (Nat × Operand)} {v : Value} {H' : GH} (h : gBuildSlice P t len (gParts ρ parts) H = some (v, H'))
    (hp : ∀ x ∈ parts.toList, VR m (ρ x.2) (ρ' x.2)) (hR : Rel P base m H w) (hb : base ≤ w.heap.size) :
    StepV P base m H w (Instr.buildSlice t len (parts.map fun (i, x) => (i, ρ' x))) v H' := by
  obtain ⟨pl, pv⟩ := gParts_VR hp
  unfold gBuildSlice at h
  split at h
  · next e hu =>
    split at h
    · next i z hi hz =>
      obtain ⟨i', hi', _, hcl⟩ := gZero_some hz
      split at h
      · next hok =>
        obtain ⟨hlen, hzs, hpos⟩ := hok
        split at h
        · next cells hf =>
          simp only [Option.some.injEq, Prod.mk.injEq] at h
          obtain ⟨rfl, rfl⟩ := h
          have hcells : (madeCells z.cells (len * i.size)).toList = repeated z.cells.toList len := by rw [← hzs]; exact repeated_eq z.cells len
          obtain ⟨r', hr, hv⟩ := gFill_VR _ _ _ (madeCells z.cells (len * i.size)) _ hf pl pv (by rw [hcells]; exact repeated_VRs (closed_cells hcl) _)
          obtain ⟨m', hm, _, h1, h2⟩ := hR.newRow hb e i.size (info_size hi) cells r' (VRs.arr? hv)
          have hmade : madeCells z.cells (len * i.size) = (Array.range (len * i.size)).map (z.cells[· % z.cells.size]!) := rfl
          rw [hmade] at hr
          have hll : len < loose := by
            unfold loose
            have := Nat.le_mul_of_pos_right len hpos
            omega
          refine ⟨.slice (some ⟨w.heap.size, 0, none⟩) len len, _, m', ?_, .slice 0 0 _ _ hm hll (Nat.le_refl _) (fun _ => rfl), h1, h2⟩
          unfold Instr.buildSlice
          simp only [Sem.run_bind, run_underlying hu, Result.andThen_ok, run_sizeOf' (info_size hi)]
          rw [Sem.run_ite, if_neg (by omega)]
          have fin : ∀ zc : Array Value, (Array.range (len * i.size)).map (fun x => zc[x % zc.size]!) = (Array.range (len * i.size)).map (z.cells[· % z.cells.size]!) →
              Instr.fill (fun k => some (k * i.size, i.size)) ((Array.range (len * i.size)).map (fun x => zc[x % zc.size]!)) (parts.map fun (i, x) => (i, ρ' x)).toList = some r' := fun zc hzc => by rw [hzc]; exact hr
          split
          · next he =>
            have f := fin #[] (by rw [he, show Array.range 0 = (#[] : Array Nat) from rfl]; simp)
            simp only [Sem.run_bind, Sem.run_pure, Result.andThen_ok, f]
            simp [newRow]
          · next he =>
            have f := fin z.cells rfl
            simp only [Sem.run_bind, Sem.run_pure, run_zeroValue' hz, Result.andThen_ok, f]
            simp [newRow]
        · cases h
      · cases h
    · cases h
  · cases h

/-! ### append, copy, clear -/
theorem gFirst_run {size n : Nat} {v v' : Value} {vs : List Value} (h : gFirst size n v H = some vs) (hv : VR m v v') (hR : Rel P base m H w) (hn : ∀ l c a, v = .slice a l c → n ≤ l) :
    ∃ vs', (∀ w' : World, w'.heap = w.heap → (Builtin.firstCells size n v').run P w' = .ok vs'.toArray w') ∧ VRs m vs vs' := by
  unfold gFirst at h
  split at h
  · next l c =>
    injection h with h
    subst h
    have := hv.sliceNil_inv
    subst this
    exact ⟨[], fun w' _ => by simp [Builtin.firstCells], .nil⟩
  · next b o l c =>
    rcases hv.slice_inv with ⟨z1, z2, bb, oo, A', e, rfl⟩ | ⟨b', p, o1, o', c', e, hp, rfl, hnc, ho, _⟩
    · have h0 : n = 0 := by have := hn l c _ rfl; omega
      subst h0
      split at h
      · split at h
        · injection h with h
          subst h
          exact ⟨[], fun w' _ => by simp [Builtin.firstCells, loadCells, loadCellsFrom], by simp; exact .nil⟩
        · cases h
      · cases h
    injection e with e1 e2
    subst e1; subst e2
    split at h
    · next cs e ro hg =>
      split at h
      · next hle =>
        injection h with h
        subst h
        obtain ⟨ds, hl, hr, hld, _⟩ := hR.seg hp hg o (n * size) hle
        rcases Nat.eq_zero_or_pos n with h0 | h0
        · subst h0
          simp only [Nat.zero_mul] at *
          exact ⟨[], fun w' _ => by simp [Builtin.firstCells, loadCells, loadCellsFrom], by simp; exact .nil⟩
        · have hl := hn l c _ rfl
          have e := ho (by omega)
          subst e
          exact ⟨ds, fun w' hw' => by simp [Builtin.firstCells, hld w' hw'], hr⟩
      · cases h
    · cases h
  · next s =>
    injection h with h
    subst h
    cases hv
    refine ⟨(s.extract 0 n).data.toList.map fun b => .int .u8 b.toNat, fun w' _ => ?_, VRs.map (f := fun b : UInt8 => Value.int .u8 b.toNat) (g := fun b : UInt8 => Value.int .u8 b.toNat) fun x _ => .int _ _⟩
    have e : ((s.extract 0 n).data.toList.map fun b => Value.int .u8 b.toNat).toArray = (s.extract 0 n).data.map fun b => Value.int .u8 b.toNat := by
      apply Array.toList_inj.1
      simp
    rw [e]
    rfl
  · cases h

theorem gLen_run {v v' : Value} {n : Nat} (h : gLen v = some n) (hv : VR m v v') : (Builtin.lenOf v').run P w = .ok n w := by
  cases hv <;> simp [gLen] at h <;> subst h <;> simp [Builtin.lenOf]

theorem nextcap_le (need old : Nat) (h : old < need) : Builtin.nextslicecap need old ≤ 2 * need := by
  have key : ∀ r c, 256 ≤ c → c ≤ 2 * need → Builtin.growBy need r c ≤ 2 * need := by
    intro r
    induction r with
    | zero => intro c _ hc; exact hc
    | succ r ih =>
      intro c h1 hc
      unfold Builtin.growBy
      split
      · exact hc
      · exact ih _ (by omega) (by omega)
  unfold Builtin.nextslicecap
  split
  · omega
  · split
    · omega
    · exact key 4 old (by omega) (by omega)

/-- 'append', the new cells given. -/
theorem run_append {st xt ty e : TypeId} {i : TypeInfo} {z : Value} {s' x' : Value} {n : Nat} {new' : List Value} (hu : P.underlying st = some (.slice e)) (hi : P.info? e = some i) (hz : gZero P e = some z)
    (hx : (∃ k0 k l, P.underlying xt = some (.int k0) ∧ x' = .int k l ∧ 0 ≤ l ∧ l ≤ 1099511627776 ∧ n = l.toNat ∧ new' = repeated z.cells.toList n) ∨
      (((∃ e', P.underlying xt = some (.slice e')) ∨ P.underlying xt = some .string) ∧ (Builtin.lenOf x').run P w = .ok n w ∧ ∀ w' : World, w'.heap = w.heap → (Builtin.firstCells i.size n x').run P w' = .ok new'.toArray w'))
    (hzs : z.cells.size = i.size) (hpos : 0 < i.size) {sLen sCap : Nat} {a : Option Addr} (hs : s' = .slice a sLen sCap) (hroom : (sLen + n) * i.bytes ≤ 1099511627776) (hroom2 : sLen + n ≤ 1099511627776) :
    (sLen + n ≤ sCap → ∀ w', (match a with | some a => storeCells (a.add (sLen * i.size)) new' | none => pure () : Sem Unit).run P w = .ok () w' → (Builtin.append_ #[st, xt] ty #[s', x']).run P w = .ok (.slice a (sLen + n) sCap) w') ∧
    (sCap < sLen + n → ∀ old', (∀ w' : World, w'.heap = w.heap → (Builtin.firstCells i.size sLen s').run P w' = .ok old' w') → ∃ (c : Nat) (w1 : World), sLen + n ≤ c ∧ w1.heap = w.heap ∧ w1.os = w.os ∧ w1.tape = w.tape ∧ w1.output = w.output ∧
      (Builtin.append_ #[st, xt] ty #[s', x']).run P w = .ok (.slice (some ⟨w.heap.size, 0, none⟩) (sLen + n) c) (w1.alloc (.cells (old' ++ new'.toArray ++ Builtin.zeroCells z.cells (c - (sLen + n))) e))) := by
  subst hs
  obtain ⟨hz1, hz2⟩ : (zeroValue e).run P w = .ok z w ∧ ∀ w', (zeroValue e).run P w' = .ok z w' := ⟨run_zeroValue' hz w, run_zeroValue' hz⟩
  have hcapB : sCap < sLen + n → ¬ Builtin.nextslicecap (sLen + n) sCap * i.bytes > 281474976710656 := fun hlt => by
    have h1 := nextcap_le (sLen + n) sCap hlt
    have h2 : Builtin.nextslicecap (sLen + n) sCap * i.bytes ≤ 2 * (sLen + n) * i.bytes := Nat.mul_le_mul_right _ h1
    have h3 : 2 * (sLen + n) * i.bytes = 2 * ((sLen + n) * i.bytes) := Nat.mul_assoc ..
    omega
  rcases hx with ⟨k0, k, l, hxu, rfl, hl0, hl1, hn, rfl⟩ | ⟨hxu, hlen, hfst'⟩
  · -- a number of zeros
    · skip
      have hwrap : IntKind.i64.wrap l = l := by simp [IntKind.wrap, IntKind.bits, IntKind.signed]; omega
      have hbytes : l * (i.bytes : Int) ≤ 1099511627776 := by
        have e : ((n * i.bytes : Nat) : Int) = l * i.bytes := by rw [Int.natCast_mul, hn, Int.toNat_of_nonneg hl0]
        have : n * i.bytes ≤ (sLen + n) * i.bytes := Nat.mul_le_mul_right _ (by omega)
        omega
      have hp48 : (2 : Int) ^ 48 = 281474976710656 := rfl
      have hcells : ∀ w' : World, (if n * i.size = 0 then pure #[] else do pure (Builtin.zeroCells (← zeroValue e).cells n) : Sem (Array Value)).run P w' = .ok (repeated z.cells.toList n).toArray w' := fun w' => by
        have e1 : Builtin.zeroCells z.cells n = (repeated z.cells.toList n).toArray := by
          apply Array.toList_inj.1
          exact repeated_eq z.cells n
        split
        · next h0 =>
          have : n = 0 := by
            rcases Nat.mul_eq_zero.1 h0 with h | h
            · exact h
            · omega
          subst this
          rfl
        · simp [hz2, e1]
      have hbz : ¬ (l * (i.bytes : Int) > 281474976710656) := by omega
      have hl0' : ¬ l < 0 := by omega
      have e1 : Builtin.zeroCells z.cells l.toNat = (repeated z.cells.toList l.toNat).toArray := by
        apply Array.toList_inj.1
        exact repeated_eq z.cells l.toNat
      have e0 : l.toNat * i.size = 0 → repeated z.cells.toList l.toNat = [] := fun h0 => by
        have : l.toNat = 0 := by
          rcases Nat.mul_eq_zero.1 h0 with h | h
          · exact h
          · omega
        rw [this]; rfl
      subst hn
      refine ⟨fun hle w' hst => ?_, fun hlt old' hold => ?_⟩
      · simp [Builtin.append_, run_underlying hu, run_underlying hxu, run_sizeOf' (info_size hi), asInt, asIntOf, hwrap, hl0', typeInfo, hi, hbz, hle]
        split
        · next h0 =>
          rw [e0 h0] at hst
          cases a <;> simp at hst ⊢ <;> simp [hst]
        · simp [hz2, e1]
          cases a <;> simp at hst ⊢ <;> simp [hst]
      · have hnle : ¬ sLen + l.toNat ≤ sCap := by omega
        refine ⟨(Question.appendCap (sLen + l.toNat) sCap e).cut (w.tape w.drawn (.appendCap (sLen + l.toNat) sCap e)), w.drew, by simp [Question.cut], rfl, rfl, rfl, rfl, ?_⟩
        have hcap := hcapB hlt
        have hmax : ¬ ((sLen + l.toNat : Nat) : Int) > IntKind.i64.max := by have : IntKind.i64.max = 9223372036854775807 := rfl; omega
        have hold' := hold w.drew rfl
        have hdrew : ({ heap := w.heap, tape := w.tape, drawn := w.drawn + 1, os := w.os, output := w.output } : World) = w.drew := rfl
        have hmax' : ¬ (9223372036854775807 < ((sLen : Int) + (l.toNat : Int))) := by omega
        have hnc : ¬ (281474976710656 < Builtin.nextslicecap (sLen + l.toNat) sCap * i.bytes) := hcap
        simp [Builtin.append_, run_underlying hu, run_underlying hxu, run_sizeOf' (info_size hi), asInt, asIntOf, hwrap, hl0', typeInfo, hi, hbz, hnle]
        rw [if_neg (by intro h; exact hmax (by simpa using h)), if_neg hnc]
        simp [Question.forced, hdrew, hold', hz2, newRow]
        split
        · next h0 => simp [e0 h0]
        · simp [e1]
  · rcases hxu with ⟨e', hxu⟩ | hxu
    all_goals
      refine ⟨fun hle w' hst => ?_, fun hlt old' hold => ?_⟩
      · have hf := hfst' w rfl
        simp [Builtin.append_, run_underlying hu, run_underlying hxu, run_sizeOf' (info_size hi), hlen, hle, hf]
        cases a <;> simp at hst ⊢ <;> simp [hst]
      · have hnle : ¬ sLen + n ≤ sCap := by omega
        refine ⟨(Question.appendCap (sLen + n) sCap e).cut (w.tape w.drawn (.appendCap (sLen + n) sCap e)), w.drew, by simp [Question.cut], rfl, rfl, rfl, rfl, ?_⟩
        have hcap := hcapB hlt
        have hold' := hold w.drew rfl
        have hf := hfst' w.drew rfl
        have hdrew : ({ heap := w.heap, tape := w.tape, drawn := w.drawn + 1, os := w.os, output := w.output } : World) = w.drew := rfl
        have hnc : ¬ (281474976710656 < Builtin.nextslicecap (sLen + n) sCap * i.bytes) := hcap
        have hmax : ¬ ((sLen : Int) + (n : Int) > IntKind.i64.max) := by have : IntKind.i64.max = 9223372036854775807 := rfl; omega
        simp [Builtin.append_, run_underlying hu, run_underlying hxu, run_sizeOf' (info_size hi), hlen, hnle, typeInfo, hi]
        rw [if_neg (by rintro ⟨h, _⟩; exact hmax h), if_neg hnc]
        simp [Question.forced, hdrew, hold', hf, hz2, newRow]
end
end Go.Gh
