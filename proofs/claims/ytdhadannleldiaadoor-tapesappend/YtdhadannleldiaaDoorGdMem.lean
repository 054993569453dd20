/- The ghost machine: the operations that touch memory, maps left out. -/
import Derived.Test.YtdhadannleldiaaDoorGcPure
import Derived.Laws.MakeOwn
import Derived.Laws.BytesString
namespace Go.Gh
open Go.RowKit
set_option linter.unusedVariables false
set_option linter.unusedSimpArgs false
section
variable {P : Program} {base : Nat} {m : PM} {H : GH} {w : World}

theorem Rel.row (h : Rel P base m H w) {b : Nat} {p : Pin} {cs : List Value} {e : TypeId} {ro : Bool} (hb : m b = some p) (hg : H.get b = some (.row cs e ro)) :
    ∃ arr t fr, w.heap[p.blk]? = some (.cells arr t fr) ∧ p.rw = (!ro) ∧ (ro = true → p.blk < base) ∧ (ro = false → t = e ∧ FrOk fr arr.size ∧ arr.size = p.tot ∧ gSize P e = some p.sz ∧ base ≤ p.blk) ∧
      ∀ (i : Nat) (u : Value), cs[i]? = some u → ∃ u', arr[p.off + i]? = some u' ∧ VR m u u' := by
  obtain ⟨o, r, ho, hr, hor⟩ := h.obj b p hb
  rw [hg] at ho
  injection ho with ho
  subst ho
  cases hor with
  | row hro hold hrw hc => exact ⟨_, _, _, hr, hro, hold, hrw, hc⟩

/-- A stretch of a row, as it is read. -/
theorem Rel.seg (h : Rel P base m H w) {b : Nat} {p : Pin} {cs : List Value} {e : TypeId} {ro : Bool} (hb : m b = some p) (hg : H.get b = some (.row cs e ro)) (o n : Nat) (hn : o + n ≤ cs.length) :
    ∃ ds : List Value, ds.length = n ∧ VRs m ((cs.drop o).take n) ds ∧ (∀ w' : World, w'.heap = w.heap → (loadCells ⟨p.blk, p.off + o, none⟩ n).run P w' = .ok ds.toArray w') ∧ ∀ j u, ds[j]? = some u → w.cell? ⟨p.blk, p.off + o + j, none⟩ = some u := by
  obtain ⟨arr, t, fr, hh, _, _, _, hc⟩ := h.row hb hg
  have hin : ∀ j, j < n → ∃ u u', cs[o + j]? = some u ∧ arr[p.off + (o + j)]? = some u' ∧ VR m u u' := fun j hj => by
    obtain ⟨u', h1, h2⟩ := hc (o + j) cs[o + j] (List.getElem?_eq_getElem (by omega))
    exact ⟨_, u', List.getElem?_eq_getElem (by omega), h1, h2⟩
  have hcell : ∀ j, j < n → w.cell? ⟨p.blk, p.off + o + j, none⟩ = arr[p.off + (o + j)]? := fun j _ => by
    simp [World.cell?, hh, Nat.add_assoc]
  have hf : ∀ j, j < n → arr[p.off + (o + j)]? = some (arr.getD (p.off + (o + j)) undef) := fun j hj => by
    obtain ⟨_, u', _, h2, _⟩ := hin j hj
    rw [h2]
    simp [Array.getD_eq_getD_getElem?, h2]
  refine ⟨(List.range n).map fun j => arr.getD (p.off + (o + j)) undef, by simp, ?_, ?_, ?_⟩
  · refine VRs.of_get? (by simp; omega) fun i u v hu hv => ?_
    have hi : i < n := by
      rcases Nat.lt_or_ge i n with hi | hi
      · exact hi
      · rw [List.getElem?_take_eq_none hi] at hu; cases hu
    rw [List.getElem?_take_of_lt hi, List.getElem?_drop] at hu
    obtain ⟨u0, u', h1, h2, h3⟩ := hin i hi
    rw [hu] at h1
    injection h1 with h1
    subst h1
    have : v = u' := by
      rw [List.getElem?_map, List.getElem?_range hi] at hv
      simp only [Option.map_some, Option.some.injEq] at hv
      rw [← hv]
      simp [Array.getD_eq_getD_getElem?, h2]
    subst this
    exact h3
  · intro w' hw'
    refine (run_loadCells w' _ n (fun j => arr.getD (p.off + (o + j)) undef) fun j hj => ?_)
    have hcw : ∀ a, w'.cell? a = w.cell? a := fun a => by simp [World.cell?, hw']
    rw [add_none, hcw, hcell j hj, hf j hj]
  · intro j u hu
    have hj : j < n := by
      have := (List.getElem?_eq_some_iff.1 hu).1
      simpa using this
    rw [List.getElem?_map, List.getElem?_range hj] at hu
    simp only [Option.map_some, Option.some.injEq] at hu
    rw [hcell j hj, hf j hj, hu]

theorem gLoad_VR {t : TypeId} {v v' u : Value} (h : gLoad P t v H = some u) (hv : VR m v v') (hR : Rel P base m H w) : ∃ u', (Instr.loadAt t v').run P w = .ok u' w ∧ VR m u u' := by
  unfold gLoad at h
  split at h
  · next b o =>
    obtain ⟨b', p, o', e, hp, rfl⟩ := hv.ptr_inv
    injection e with e1 e2
    subst e1; subst e2
    split at h
    · next cs e ro d s hg hu hs =>
      split at h
      · next hag =>
        split at h
        · next hle =>
          injection h with h
          subst h
          obtain ⟨ds, hl, hr, hld, _⟩ := hR.seg hp hg o s hle
          refine ⟨.agg ds.toArray, ?_, ?_⟩
          · simp [Instr.loadAt, Instr.sureAddr, loadVar, run_isAgg hu, hag, run_sizeOf' hs, hld w rfl]
          · exact VR.aggL hr
        · cases h
      · next hag =>
        have hag : gIsAgg P t = false := by simpa using hag
        obtain ⟨arr, t', fr, hh, _, _, _, hc⟩ := hR.row hp hg
        obtain ⟨u', h1, h2⟩ := hc o u h
        refine ⟨u', ?_, h2⟩
        have hcell : w.cell? ⟨p.blk, p.off + o, none⟩ = some u' := by simp [World.cell?, hh, h1]
        simp [Instr.loadAt, Instr.sureAddr, loadVar, run_isAgg hu, hag, hcell]
    · cases h
  · cases h

theorem setRow_eq (w : World) (g : Nat) (old cs : Array Value) (t : TypeId) (fr : Nat × Nat) (hg : w.heap[g]? = some (.cells old t fr)) : (w.setRow g cs).heap = w.heap.setIfInBounds g (.cells cs t fr) := by
  have hlt : g < w.heap.size := (Array.getElem?_eq_some_iff.1 hg).1
  have hv : w.heap[g] = .cells old t fr := (Array.getElem?_eq_some_iff.1 hg).2
  apply Array.ext_getElem?
  intro i
  simp only [World.setRow, Array.getElem?_modify, Array.getElem?_setIfInBounds]
  by_cases e : g = i
  · subst e
    simp [hlt, hv]
  · simp [e]

theorem oneC_one {v : Value} (h : oneC v = true) : v.oneCell' = true := by cases v <;> first | rfl | simp [oneC] at h

theorem run_storeCells_fr {P : Program} (g o : Nat) (t : TypeId) (fr : Nat × Nat) : ∀ (vs : List Value) (i : Nat) (cur : Array Value) (w : World), w.heap[g]? = some (.cells cur t fr) → FrOk fr cur.size → o + i + vs.length ≤ cur.size → (∀ v ∈ vs, v.oneCell' = true) →
    (storeCells ⟨g, o, none⟩ vs i).run P w = .ok () (w.setRow g (cur.toList.take (o + i) ++ vs ++ cur.toList.drop (o + i + vs.length)).toArray)
  | [], i, cur, w, hg, _, _, _ => by
    simp only [storeCells, List.append_nil, List.length_nil, Nat.add_zero, List.take_append_drop, Array.toArray_toList]
    rw [setRow_self w g cur t fr hg]
    rfl
  | v :: rest, i, cur, w, hg, hf, hl, h1 => by
    have hi : o + i < cur.size := by simp at hl; omega
    have hadd : (⟨g, o, none⟩ : Addr).add i = ⟨g, o + i, none⟩ := by unfold Addr.add; split <;> simp_all
    have hcell : w.cell? ⟨g, o + i, none⟩ = some cur[o + i] := by simp [World.cell?, hg, hi]
    have hfro : w.frozen? ⟨g, o + i, none⟩ = false := by
      unfold World.frozen?
      rw [hg]
      rcases hf with rfl | hf
      · simp
      · have : ¬ fr.1 ≤ o + i := by omega
        simp [this]
    have hst : (store ((⟨g, o, none⟩ : Addr).add i) v).run P w = .ok () (w.setRow g (cur.setIfInBounds (o + i) v)) := by
      rw [hadd, run_store P w _ v _ (h1 v (by simp)), hcell]
      simp [hfro, setCell_eq_setRow w g (o + i) cur t fr v hg]
    have ih := run_storeCells_fr (P := P) g o t fr rest (i + 1) (cur.setIfInBounds (o + i) v) (w.setRow g (cur.setIfInBounds (o + i) v)) (setRow_heap w g cur _ t _ hg) (by rw [Array.size_setIfInBounds]; exact hf) (by simp at hl ⊢; omega) (fun x hx => h1 x (by simp [hx]))
    simp only [storeCells, Sem.run_bind, hst, Result.andThen_ok, ih, setRow_setRow]
    congr 3
    have e := list_seg_step cur.toList (o + i) v rest (by simp at hl ⊢; omega)
    simpa [Array.toList_setIfInBounds, Nat.add_assoc] using e

/-- A store into a row of the call's own. -/
theorem gStoreCells_VR {b o : Nat} {p : Pin} {vs vs' : List Value} {H' : GH} (h : gStoreCells b o vs H = some H') (hp : m b = some p) (hv : VRs m vs vs') (hR : Rel P base m H w) :
    ∃ w', (storeCells ⟨p.blk, p.off + o, none⟩ vs').run P w = .ok () w' ∧ Rel P base m H' w' ∧ Go1 base m m H H' w w' := by
  unfold gStoreCells at h
  split at h
  · next cs e hg =>
    split at h
    · next hok =>
      obtain ⟨hle, hone⟩ := hok
      injection h with h
      subst h
      obtain ⟨arr, t, fr, hh, hrw, _, hw, hc⟩ := hR.row hp hg
      obtain ⟨rfl, hfr, htot, hsz, hbk⟩ := hw rfl
      have hlast : ∀ i, i < cs.length → p.off + i < arr.size := fun i hi => by
        obtain ⟨u', h1, _⟩ := hc i cs[i] (List.getElem?_eq_getElem hi)
        exact (Array.getElem?_eq_some_iff.1 h1).1
      have hroom : p.off + o + 0 + vs'.length ≤ arr.size ∨ vs' = [] := by
        cases vs' with
        | nil => exact .inr rfl
        | cons x xs =>
          left
          have := hv.1
          have hl : o + (x :: xs).length ≤ cs.length := by rw [← this]; exact hle
          have := hlast (o + (x :: xs).length - 1) (by simp only [List.length_cons] at hl ⊢; omega)
          simp only [List.length_cons] at hl this ⊢
          omega
      have hone' : ∀ v ∈ vs', v.oneCell' = true := fun v hvm => by
        obtain ⟨i, hi, rfl⟩ := List.getElem_of_mem hvm
        have hi' : i < vs.length := by rw [hv.1]; exact hi
        exact oneC_one (by rw [(hv.2 i hi' hi).oneC_eq]; exact List.all_eq_true.1 hone _ (List.getElem_mem hi'))
      rcases hroom with hroom | hnil
      · have hrun := run_storeCells_fr (P := P) p.blk (p.off + o) t fr vs' 0 arr w hh hfr hroom hone'
        refine ⟨_, hrun, hR.turn hp (by rw [hg]; rfl) hbk (setRow_eq w p.blk arr _ t fr hh) rfl rfl rfl ?_ (fun q hq => by rw [hh] at hq; cases hq) (fun ds hd => by rw [hh] at hd; cases hd) (hR.alone hp (by rw [hg]; rfl) hbk)⟩
        refine .row hrw (fun h => by cases h) (fun _ => ⟨rfl, ?_, ?_, hsz, hbk⟩) fun i u hu => ?_
        · have e : (arr.toList.take (p.off + o + 0) ++ vs' ++ arr.toList.drop (p.off + o + 0 + vs'.length)).toArray.size = arr.size := by
            simp only [List.size_toArray, List.length_append, List.length_take, List.length_drop, Array.length_toList]
            omega
          rw [e]; exact hfr
        · simp only [List.size_toArray, List.length_append, List.length_take, List.length_drop, Array.length_toList]
          omega
        · simp only [Nat.add_zero] at *
          have hlen : (cs.take o).length = o := by simp; omega
          have hlen' : (arr.toList.take (p.off + o)).length = p.off + o := by simp; omega
          rw [List.getElem?_toArray]
          unfold putAt at hu
          rw [List.append_assoc] at hu ⊢
          rcases Nat.lt_or_ge i o with hi | hi
          · rw [List.getElem?_append_left (by omega), List.getElem?_take_of_lt hi] at hu
            rw [List.getElem?_append_left (by omega), List.getElem?_take_of_lt (by omega), Array.getElem?_toList]
            exact hc i u hu
          · rw [List.getElem?_append_right (by omega), hlen] at hu
            rw [List.getElem?_append_right (by omega), hlen']
            have ei : p.off + i - (p.off + o) = i - o := by omega
            rw [ei]
            rcases Nat.lt_or_ge (i - o) vs.length with hj | hj
            · rw [List.getElem?_append_left hj] at hu
              rw [List.getElem?_append_left (by rw [← hv.1]; exact hj)]
              exact hv.get? hu
            · rw [List.getElem?_append_right hj, List.getElem?_drop] at hu
              rw [List.getElem?_append_right (by rw [← hv.1]; exact hj), List.getElem?_drop, Array.getElem?_toList, ← hv.1]
              have e1 : o + vs.length + (i - o - vs.length) = i := by omega
              have e2 : p.off + o + vs.length + (i - o - vs.length) = p.off + i := by omega
              rw [e1] at hu
              rw [e2]
              exact hc i u hu
      · subst hnil
        have hv0 : vs = [] := List.eq_nil_of_length_eq_zero (by simpa using hv.1)
        subst hv0
        have hput : putAt cs o [] = cs := by simp [putAt]
        rw [hput]
        refine ⟨w, rfl, ?_⟩
        have := hR.turn (o := .row cs t false) (w' := w) (r := .cells arr t fr) hp (by rw [hg]; rfl) hbk ?_ rfl rfl rfl (.row hrw (fun h => by cases h) (fun _ => ⟨rfl, hfr, htot, hsz, hbk⟩) hc) (fun q hq => by rw [hh] at hq; cases hq) (fun ds hd => by rw [hh] at hd; cases hd) (hR.alone hp (by rw [hg]; rfl) hbk)
        · exact this
        · apply Array.ext_getElem?
          intro i
          rw [Array.getElem?_setIfInBounds]
          by_cases e : p.blk = i
          · subst e
            rw [if_pos rfl, hh, if_pos (Array.getElem?_eq_some_iff.1 hh).1]
          · rw [if_neg e]
    · cases h
  · cases h

theorem gStore_VR {t : TypeId} {a a' v v' : Value} {H' : GH} (h : gStore P t a v H = some H') (ha : VR m a a') (hv : VR m v v') (hR : Rel P base m H w) :
    ∃ w', (Instr.storeAt t a' v').run P w = .ok () w' ∧ Rel P base m H' w' ∧ Go1 base m m H H' w w' := by
  unfold gStore at h
  split at h
  · next b o =>
    obtain ⟨b', p, o', e, hp, rfl⟩ := ha.ptr_inv
    injection e with e1 e2
    subst e1; subst e2
    split at h
    · next s hs =>
      split at h
      · next hsz =>
        obtain ⟨w', hr, h1, h2⟩ := gStoreCells_VR h hp hv.cells hR
        refine ⟨w', ?_, h1, h2⟩
        have e : v'.cells.size = s := by have := hv.cells.1; simp only [Array.length_toList] at this; omega
        simp [Instr.storeAt, Instr.sureAddr, storeVar, run_sizeOf' hs, e, hr]
      · cases h
    · cases h
  · cases h

/-! ### New rows -/
theorem Rel.newRow (hR : Rel P base m H w) (hb : base ≤ w.heap.size) (e : TypeId) (s : Nat) (hs : gSize P e = some s) (cs : List Value) (arr : Array Value) (hv : ∀ (i : Nat) (u : Value), cs[i]? = some u → ∃ u', arr[i]? = some u' ∧ VR m u u') :
    ∃ m', m' H.n = some ⟨w.heap.size, 0, arr.size, s, true⟩ ∧ PM.le m m' ∧ Rel P base m' (H.push (.row cs e false)) (w.alloc (.cells arr e)) ∧ Go1 base m m' H (H.push (.row cs e false)) w (w.alloc (.cells arr e)) := by
  let p : Pin := ⟨w.heap.size, 0, arr.size, s, true⟩
  have hle := hR.put_le p
  have hn := hR.new hb (.row cs e false) (.cells arr e) p rfl (.row rfl (fun h => by cases h) (fun _ => ⟨rfl, .inl rfl, rfl, hs, hb⟩) fun i u hu => by
    obtain ⟨u', h1, h2⟩ := hv i u hu
    exact ⟨u', by rw [show p.off + i = i from Nat.zero_add i]; exact h1, h2.mono hle⟩)
  exact ⟨m.put H.n p, PM.put_same _ _ _, hle, hn.1, hn.2⟩

theorem VRs.arr? {cs : List Value} {arr : Array Value} (h : VRs m cs arr.toList) : ∀ (i : Nat) (u : Value), cs[i]? = some u → ∃ u', arr[i]? = some u' ∧ VR m u u' := fun i u hu => by
  obtain ⟨v, hv, hr⟩ := h.get? hu
  exact ⟨v, by rwa [Array.getElem?_toList] at hv, hr⟩

theorem repeated_eq (z : Array Value) (n : Nat) : (madeCells z (n * z.size)).toList = repeated z.toList n := by
  unfold madeCells repeated
  induction n with
  | zero => simp
  | succ n ih =>
    rw [List.replicate_succ, List.flatten_cons, ← ih]
    have e : (n + 1) * z.size = z.size + n * z.size := by rw [Nat.add_mul]; omega
    simp only [Array.toList_map, Array.toList_range, e, List.range_add, List.map_append, List.map_map]
    congr 1
    · apply List.ext_getElem?
      intro i
      rcases Nat.lt_or_ge i z.size with hi | hi
      · rw [List.getElem?_map, List.getElem?_range hi, Array.getElem?_toList]
        simp [Nat.mod_eq_of_lt hi, hi]
      · rw [List.getElem?_eq_none (by simpa using hi), List.getElem?_eq_none (by simpa using hi)]
    · apply List.map_congr_left
      intro i _
      simp
theorem repeated_length (z : List Value) (n : Nat) : (repeated z n).length = n * z.length := by
  simp [repeated, List.length_flatten]
theorem repeated_all {z : List Value} {p : Value → Bool} (h : z.all p = true) (n : Nat) : (repeated z n).all p = true := by
  rw [List.all_eq_true] at h ⊢
  intro x hx
  unfold repeated at hx
  rw [List.mem_flatten] at hx
  obtain ⟨l, hl, hx⟩ := hx
  rw [(List.mem_replicate.1 hl).2] at hx
  exact h x hx
theorem closed_cells {z : Value} (h : closed z = true) : VRs m z.cells.toList z.cells.toList := (closed_VR h).cells
theorem repeated_VRs {z : List Value} (h : VRs m z z) (n : Nat) : VRs m (repeated z n) (repeated z n) := by
  induction n with
  | zero => exact VRs.nil
  | succ n ih =>
    have e : repeated z (n + 1) = z ++ repeated z n := by simp [repeated, List.replicate_succ]
    rw [e]
    exact h.append ih
end
end Go.Gh
/- The ghost machine: rows that are made, append, copy, clear. -/
namespace Go.Gh
open Go.RowKit
set_option linter.unusedVariables false
set_option linter.unusedSimpArgs false
section
variable {P : Program} {base : Nat} {m : PM} {H : GH} {w : World}

/-- What an operation that makes or turns memory comes to. -/
def StepV (P : Program) (base : Nat) (m : PM) (H : GH) (w : World) (s : Sem Value) (v : Value) (H' : GH) : Prop :=
  ∃ v' w' m', s.run P w = .ok v' w' ∧ VR m' v v' ∧ Rel P base m' H' w' ∧ Go1 base m m' H H' w w'
def StepU (P : Program) (base : Nat) (m : PM) (H : GH) (w : World) (s : Sem Unit) (H' : GH) : Prop :=
  ∃ w' m', s.run P w = .ok () w' ∧ Rel P base m' H' w' ∧ Go1 base m m' H H' w w'

theorem info_size {t : TypeId} {i : TypeInfo} (h : P.info? t = some i) : gSize P t = some i.size := by simp [gSize, h]
theorem gZero_size {t : TypeId} {z : Value} (h : gZero P t = some z) : ∃ s, gSize P t = some s := by
  obtain ⟨i, hi, _, _⟩ := gZero_some h
  exact ⟨i.size, info_size hi⟩

theorem gAlloc_step {e : TypeId} {z : Value} (h : gZero P e = some z) (hR : Rel P base m H w) (hb : base ≤ w.heap.size) :
    StepV P base m H w (Instr.alloc e true (.tuple #[])) (.pointer (some ⟨H.n, 0, none⟩)) (H.push (.row z.cells.toList e false)) := by
  obtain ⟨i, hi, _, hcl⟩ := gZero_some h
  obtain ⟨m', hm, _, h1, h2⟩ := hR.newRow hb e _ (info_size hi) z.cells.toList z.cells (VRs.arr? (closed_VR hcl).cells)
  refine ⟨_, _, m', ?_, .ptr 0 hm, h1, h2⟩
  simp [Instr.alloc, run_zeroValue' h, newVar, newRow]

theorem gBox_step {e : TypeId} {v v' : Value} {s : Nat} (hs : gSize P e = some s) (hv : VR m v v') (hR : Rel P base m H w) (hb : base ≤ w.heap.size) :
    StepV P base m H w (Instr.box e v') (.pointer (some ⟨H.n, 0, none⟩)) (H.push (.row v.cells.toList e false)) := by
  obtain ⟨m', hm, _, h1, h2⟩ := hR.newRow hb e s hs v.cells.toList v'.cells (VRs.arr? hv.cells)
  refine ⟨_, _, m', ?_, .ptr 0 hm, h1, h2⟩
  simp [Instr.box, newVar, newRow]

theorem gMakeSlice_step {t : TypeId} {l l' c c' v : Value} {H' : GH} (h : gMakeSlice P t l c H = some (v, H')) (hl : VR m l l') (hc : VR m c c') (hR : Rel P base m H w) (hb : base ≤ w.heap.size) :
    StepV P base m H w (Instr.makeSlice t l' c') v H' := by
  unfold gMakeSlice at h
  split at h
  · next e k l k' c hu =>
    have e1 := hl.int_inv; have e2 := hc.int_inv
    subst e1; subst e2
    split at h
    · next i z hi hz =>
      split at h
      · next hok =>
        obtain ⟨h0, hlc, hroom, hzs, hpos⟩ := hok
        simp only [Option.some.injEq, Prod.mk.injEq] at h
        obtain ⟨rfl, rfl⟩ := h
        obtain ⟨i', hi', _, hcl⟩ := gZero_some hz
        simp only [roomy, Bool.and_eq_true, decide_eq_true_eq] at hroom
        have hcells : (madeCells z.cells (c.toNat * i.size)).toList = repeated z.cells.toList c.toNat := by rw [← hzs]; exact repeated_eq z.cells c.toNat
        obtain ⟨m', hm, _, h1, h2⟩ := hR.newRow hb e i.size (info_size hi) (repeated z.cells.toList c.toNat) (madeCells z.cells (c.toNat * i.size)) (VRs.arr? (by rw [hcells]; exact repeated_VRs (closed_cells hcl) _))
        have hc40 : c ≤ 1099511627776 := by omega
        have hw1 : IntKind.i64.wrap l = l := by rw [show IntKind.i64.wrap l = _ from rfl]; simp [IntKind.wrap, IntKind.bits, IntKind.signed]; omega
        have hw2 : IntKind.i64.wrap c = c := by rw [show IntKind.i64.wrap c = _ from rfl]; simp [IntKind.wrap, IntKind.bits, IntKind.signed]; omega
        have hbytes : ((i.bytes : Int) * c) ≤ 1099511627776 := by
          have e : ((c.toNat * i.bytes : Nat) : Int) = c * i.bytes := by rw [Int.natCast_mul, Int.toNat_of_nonneg (by omega)]
          have := hroom.1
          have e2 : (i.bytes : Int) * c = c * i.bytes := Int.mul_comm _ _
          omega
        have hbytes0 : 0 ≤ (i.bytes : Int) * c := Int.mul_nonneg (by omega) (by omega)
        refine ⟨.slice (some ⟨w.heap.size, 0, none⟩) l.toNat c.toNat, _, m', ?_, ?_, h1, h2⟩
        · have hmade : madeCells z.cells (c.toNat * i.size) = (Array.range (c.toNat * i.size)).map (z.cells[· % z.cells.size]!) := rfl
          have htl : ¬ (c < 0 ∨ (i.bytes : Int) * c > 2 ^ 48) := by
            have : (2 : Int) ^ 48 = 281474976710656 := rfl
            omega
          unfold Instr.makeSlice
          simp only [Sem.run_bind, run_underlying hu, Result.andThen_ok, asInt, asIntOf, Sem.run_pure, typeInfo, run_program, hi, hw1, hw2, run_askRoom, run_sizeOf' (info_size hi)]
          rw [Sem.run_ite, if_neg (by simp only [Bool.or_eq_true, decide_eq_true_eq, gt_iff_lt] at htl ⊢; omega)]
          simp [newRow, run_askRoom, run_sizeOf' (info_size hi)]
          split
          · next he => simp [madeCells, he, show Array.range 0 = (#[] : Array Nat) from rfl]
          · next he => simp [run_zeroValue' hz, hmade]
        · exact .slice 0 0 _ _ hm (by unfold loose; omega) (by omega) (fun _ => rfl)
      · cases h
    · cases h
  · cases h

theorem gBuildSlice_step {t : TypeId} {len : Nat} {ρ ρ' : Operand → Value} {parts : Array (Nat × Operand)} {v : Value} {H' : GH} (h : gBuildSlice P t len (gParts ρ parts) H = some (v, H'))
    (hp : ∀ x ∈ parts.toList, VR m (ρ x.2) (ρ' x.2)) (hR : Rel P base m H w) (hb : base ≤ w.heap.size) :
    StepV P base m H w (Instr.buildSlice t len (parts.map fun (i, x) => (i, ρ' x))) v H' := by
  obtain ⟨pl, pv⟩ := gParts_VR hp
  unfold gBuildSlice at h
  split at h
  · next e hu =>
    split at h
    · next i z hi hz =>
      obtain ⟨i', hi', _, hcl⟩ := gZero_some hz
      split at h
      · next hok =>
        obtain ⟨hlen, hzs, hpos⟩ := hok
        split at h
        · next cells hf =>
          simp only [Option.some.injEq, Prod.mk.injEq] at h
          obtain ⟨rfl, rfl⟩ := h
          have hcells : (madeCells z.cells (len * i.size)).toList = repeated z.cells.toList len := by rw [← hzs]; exact repeated_eq z.cells len
          obtain ⟨r', hr, hv⟩ := gFill_VR _ _ _ (madeCells z.cells (len * i.size)) _ hf pl pv (by rw [hcells]; exact repeated_VRs (closed_cells hcl) _)
          obtain ⟨m', hm, _, h1, h2⟩ := hR.newRow hb e i.size (info_size hi) cells r' (VRs.arr? hv)
          have hmade : madeCells z.cells (len * i.size) = (Array.range (len * i.size)).map (z.cells[· % z.cells.size]!) := rfl
          rw [hmade] at hr
          have hll : len < loose := by
            unfold loose
            have := Nat.le_mul_of_pos_right len hpos
            omega
          refine ⟨.slice (some ⟨w.heap.size, 0, none⟩) len len, _, m', ?_, .slice 0 0 _ _ hm hll (Nat.le_refl _) (fun _ => rfl), h1, h2⟩
          unfold Instr.buildSlice
          simp only [Sem.run_bind, run_underlying hu, Result.andThen_ok, run_sizeOf' (info_size hi)]
          rw [Sem.run_ite, if_neg (by omega)]
          have fin : ∀ zc : Array Value, (Array.range (len * i.size)).map (fun x => zc[x % zc.size]!) = (Array.range (len * i.size)).map (z.cells[· % z.cells.size]!) →
              Instr.fill (fun k => some (k * i.size, i.size)) ((Array.range (len * i.size)).map (fun x => zc[x % zc.size]!)) (parts.map fun (i, x) => (i, ρ' x)).toList = some r' := fun zc hzc => by rw [hzc]; exact hr
          split
          · next he =>
            have f := fin #[] (by rw [he, show Array.range 0 = (#[] : Array Nat) from rfl]; simp)
            simp only [Sem.run_bind, Sem.run_pure, Result.andThen_ok, f]
            simp [newRow]
          · next he =>
            have f := fin z.cells rfl
            simp only [Sem.run_bind, Sem.run_pure, run_zeroValue' hz, Result.andThen_ok, f]
            simp [newRow]
        · cases h
      · cases h
    · cases h
  · cases h

/-! ### append, copy, clear -/
theorem gFirst_run {size n : Nat} {v v' : Value} {vs : List Value} (h : gFirst size n v H = some vs) (hv : VR m v v') (hR : Rel P base m H w) (hn : ∀ l c a, v = .slice a l c → n ≤ l) :
    ∃ vs', (∀ w' : World, w'.heap = w.heap → (Builtin.firstCells size n v').run P w' = .ok vs'.toArray w') ∧ VRs m vs vs' := by
  unfold gFirst at h
  split at h
  · next l c =>
    injection h with h
    subst h
    have := hv.sliceNil_inv
    subst this
    exact ⟨[], fun w' _ => by simp [Builtin.firstCells], .nil⟩
  · next b o l c =>
    rcases hv.slice_inv with ⟨z1, z2, bb, oo, A', e, rfl⟩ | ⟨b', p, o1, o', c', e, hp, rfl, hnc, ho, _⟩
    · have h0 : n = 0 := by have := hn l c _ rfl; omega
      subst h0
      split at h
      · split at h
        · injection h with h
          subst h
          exact ⟨[], fun w' _ => by simp [Builtin.firstCells, loadCells, loadCellsFrom], by simp; exact .nil⟩
        · cases h
      · cases h
    injection e with e1 e2
    subst e1; subst e2
    split at h
    · next cs e ro hg =>
      split at h
      · next hle =>
        injection h with h
        subst h
        obtain ⟨ds, hl, hr, hld, _⟩ := hR.seg hp hg o (n * size) hle
        rcases Nat.eq_zero_or_pos n with h0 | h0
        · subst h0
          simp only [Nat.zero_mul] at *
          exact ⟨[], fun w' _ => by simp [Builtin.firstCells, loadCells, loadCellsFrom], by simp; exact .nil⟩
        · have hl := hn l c _ rfl
          have e := ho (by omega)
          subst e
          exact ⟨ds, fun w' hw' => by simp [Builtin.firstCells, hld w' hw'], hr⟩
      · cases h
    · cases h
  · next s =>
    injection h with h
    subst h
    cases hv
    refine ⟨(s.extract 0 n).data.toList.map fun b => .int .u8 b.toNat, fun w' _ => ?_, VRs.map (f := fun b : UInt8 => Value.int .u8 b.toNat) (g := fun b : UInt8 => Value.int .u8 b.toNat) fun x _ => .int _ _⟩
    have e : ((s.extract 0 n).data.toList.map fun b => Value.int .u8 b.toNat).toArray = (s.extract 0 n).data.map fun b => Value.int .u8 b.toNat := by
      apply Array.toList_inj.1
      simp
    rw [e]
    rfl
  · cases h

theorem gBytes_inv {vs : List Value} {s r : ByteArray} (h : gBytes vs s = some r) : ∃ ns : List Int, vs = ns.map (Value.int .u8) ∧ r = ns.foldl (fun r n => r.push (UInt8.ofNat n.toNat)) s := by
  induction vs generalizing s with
  | nil => injection h with h; exact ⟨[], rfl, h.symm⟩
  | cons v vs ih =>
    unfold gBytes at h
    cases v <;> first | (cases h; done) | skip
    next k n =>
    cases k <;> first | (cases h; done) | skip
    obtain ⟨ns, rfl, h2⟩ := ih h
    exact ⟨n :: ns, rfl, h2⟩
theorem VRs.ints {ns : List Int} {k : IntKind} {ys : List Value} (h : VRs m (ns.map (Value.int k)) ys) : ys = ns.map (Value.int k) := by
  refine List.ext_getElem? fun i => ?_
  rcases Nat.lt_or_ge i ns.length with hi | hi
  · obtain ⟨v, hv, hr⟩ := h.get? (i := i) (u := Value.int k ns[i]) (by simp [hi])
    have := hr.int_inv
    subst this
    rw [hv]; simp [hi]
  · rw [List.getElem?_eq_none (by rw [← h.1]; simpa using hi), List.getElem?_eq_none (by simpa using hi)]
theorem gConvert_VR {src dst : TypeId} {u u' r : Value} (h : gConvert P src dst u H = some r) (hu : VR m u u') (hR : Rel P base m H w) : (convert src dst u').run P w = .ok r w ∧ closed r = true := by
  unfold gConvert at h
  split at h
  · next hb =>
    unfold isBytes at hb
    split at hb
    case h_2 => cases hb
    next e hs hd =>
    split at hb
    case h_2 => cases hb
    next he =>
    split at h
    case h_2 => cases h
    next a n c =>
    obtain ⟨s, hs', rfl⟩ := Option.map_eq_some_iff.1 h
    obtain ⟨vs, hf, hg⟩ := Option.bind_eq_some_iff.1 hs'
    obtain ⟨ns, rfl, rfl⟩ := gBytes_inv hg
    obtain ⟨vs', hrun, hv⟩ := gFirst_run (P := P) hf hu hR (fun l c' a' he => by injection he with _ he _; omega)
    have := hv.ints
    subst this
    have hrun := hrun w rfl
    refine ⟨?_, rfl⟩
    cases u' with
    | slice a' n' c' =>
      rw [run_convert_bytes_string w src dst e a' n' c' hs he hd]
      cases a' with
      | none =>
        simp [Builtin.firstCells] at hrun
        subst hrun
        simp [Conv.bytesToString, Sem.run_pure]
      | some a' =>
        have hn : n' = n := by
          cases hu <;> rfl
        subst hn
        refine run_bytesToString w a' n' c' ns ?_
        simpa [Builtin.firstCells] using hrun
    | _ => cases hu
  · obtain ⟨h1, h2⟩ := Option.filter_eq_some_iff.1 h
    exact ⟨oConvert_VR h1 hu, by simpa using h2⟩

theorem freeze_heap (w : World) (g n : Nat) (arr : Array Value) (t : TypeId) (fr : Nat × Nat) (hg : w.heap[g]? = some (.cells arr t fr)) :
    (w.freeze ⟨g, n, none⟩ 1).heap = w.heap.setIfInBounds g (.cells arr t (if fr.1 == fr.2 then (n, n + 1) else (min fr.1 n, max fr.2 (n + 1)))) := by
  have hlt : g < w.heap.size := (Array.getElem?_eq_some_iff.1 hg).1
  have hv : w.heap[g] = .cells arr t fr := (Array.getElem?_eq_some_iff.1 hg).2
  apply Array.ext_getElem?
  intro i
  simp only [World.freeze, Nat.one_ne_zero, if_false, Array.getElem?_modify, Array.getElem?_setIfInBounds]
  by_cases e : g = i
  · subst e
    simp [hlt, hv]
  · simp [e]
/-- The row of a constant's bytes is marked. -/
theorem gMark_step {src dst : TypeId} {u u' r : Value} {H' : GH} (hs : isSelf P src dst = true) (h : gMark u H = some (r, H')) (hu : VR m u u') (hR : Rel P base m H w) : StepV P base m H w (convert src dst u') r H' := by
  unfold isSelf at hs
  simp only [Bool.and_eq_true] at hs
  obtain ⟨hsd, hs⟩ := hs
  have hsd' : src = dst := by simpa using hsd
  subst hsd'
  split at hs
  case h_2 => cases hs
  next e he =>
  split at hs
  case h_2 => cases hs
  next h8 =>
  unfold gMark at h
  split at h
  case h_2 => cases h
  next b o n c =>
  split at h
  · cases h
  next hc0 =>
  split at h
  case h_2 => cases h
  next cs e' hg =>
  injection h with h
  injection h with h1 h2
  subst h1; subst h2
  have key : ∀ (p : Pin) (o' c' : Nat), m b = some p → VR m (.slice (some ⟨b, o, none⟩) n c) (.slice (some ⟨p.blk, o', none⟩) n c') → StepV P base m H w (convert src src (.slice (some ⟨p.blk, o', none⟩) n c')) (.slice (some ⟨b, o, none⟩) n c) (H.set b (.row cs e' false)) := by
    intro p o' c' hp hv
    obtain ⟨arr, t, fr, hh, hrw, _, hw, hc⟩ := hR.row hp hg
    obtain ⟨rfl, hfr, htot, hsz, hbk⟩ := hw rfl
    have hsh : w.shape? p.blk = some (t, arr.size) := by
      unfold World.shape?
      rw [hh]
    have hturn := hR.turn (o := .row cs t false) (w' := w.freeze ⟨p.blk, arr.size, none⟩ 1) hp (by rw [hg]; rfl) hbk (freeze_heap w p.blk arr.size arr t fr hh) rfl rfl rfl
      (.row hrw (fun h => by cases h) (fun _ => ⟨rfl, ?_, htot, hsz, hbk⟩) hc) (fun q hq => by rw [hh] at hq; cases hq) (fun ds hd => by rw [hh] at hd; cases hd) (hR.alone hp (by rw [hg]; rfl) hbk)
    · refine ⟨_, _, m, ?_, hv, hturn.1, hturn.2⟩
      simp [convert, run_underlying he, run_underlying h8, markStringish, hsh]
    · by_cases h0 : fr.1 = fr.2
      · rw [if_pos (by simpa using h0)]; exact .inr (Nat.le_refl _)
      · rw [if_neg (by simpa using h0)]
        rcases hfr with rfl | hfr
        · exact absurd rfl h0
        · exact .inr (by show arr.size ≤ min fr.1 arr.size; omega)
  cases hu with
  | slice _ o' _ _ hp h1 h2 h3 => exact key _ _ _ hp (.slice _ _ _ _ hp h1 h2 h3)
  | sliceL _ o' _ _ c' hp h1 h2 h3 h4 => exact key _ _ _ hp (.sliceL _ _ _ _ _ hp h1 h2 h3 h4)
  | sliceD => exact absurd rfl hc0
theorem gLen_run {v v' : Value} {n : Nat} (h : gLen v = some n) (hv : VR m v v') : (Builtin.lenOf v').run P w = .ok n w := by
  cases hv <;> simp [gLen] at h <;> subst h <;> simp [Builtin.lenOf]

theorem nextcap_le (need old : Nat) (h : old < need) : Builtin.nextslicecap need old ≤ 2 * need := by
  have key : ∀ r c, 256 ≤ c → c ≤ 2 * need → Builtin.growBy need r c ≤ 2 * need := by
    intro r
    induction r with
    | zero => intro c _ hc; exact hc
    | succ r ih =>
      intro c h1 hc
      unfold Builtin.growBy
      split
      · exact hc
      · exact ih _ (by omega) (by omega)
  unfold Builtin.nextslicecap
  split
  · omega
  · split
    · omega
    · exact key 4 old (by omega) (by omega)

/-- 'append', the new cells given. -/
theorem run_append {st xt ty e : TypeId} {i : TypeInfo} {z : Value} {s' x' : Value} {n : Nat} {new' : List Value} (hu : P.underlying st = some (.slice e)) (hi : P.info? e = some i) (hz : gZero P e = some z)
    (hx : (∃ k0 k l, P.underlying xt = some (.int k0) ∧ x' = .int k l ∧ 0 ≤ l ∧ l ≤ 1099511627776 ∧ n = l.toNat ∧ new' = repeated z.cells.toList n) ∨
      (((∃ e', P.underlying xt = some (.slice e')) ∨ P.underlying xt = some .string) ∧ (Builtin.lenOf x').run P w = .ok n w ∧ ∀ w' : World, w'.heap = w.heap → (Builtin.firstCells i.size n x').run P w' = .ok new'.toArray w'))
    (hzs : z.cells.size = i.size) (hpos : 0 < i.size) {sLen sCap : Nat} {a : Option Addr} (hs : s' = .slice a sLen sCap) (hroom : (sLen + n) * i.bytes ≤ 1099511627776) (hroom2 : sLen + n ≤ 1099511627776) :
    (sLen + n ≤ sCap → ∀ w', (match a with | some a => storeCells (a.add (sLen * i.size)) new' | none => pure () : Sem Unit).run P w = .ok () w' → (Builtin.append_ #[st, xt] ty #[s', x']).run P w = .ok (.slice a (sLen + n) sCap) w') ∧
    (sCap < sLen + n → ∀ old', (∀ w' : World, w'.heap = w.heap → (Builtin.firstCells i.size sLen s').run P w' = .ok old' w') → ∃ (c : Nat) (w1 : World), sLen + n ≤ c ∧ w1.heap = w.heap ∧ w1.os = w.os ∧ w1.tape = w.tape ∧ w1.output = w.output ∧
      (Builtin.append_ #[st, xt] ty #[s', x']).run P w = .ok (.slice (some ⟨w.heap.size, 0, none⟩) (sLen + n) c) (w1.alloc (.cells (old' ++ new'.toArray ++ Builtin.zeroCells z.cells (c - (sLen + n))) e))) := by
  subst hs
  obtain ⟨hz1, hz2⟩ : (zeroValue e).run P w = .ok z w ∧ ∀ w', (zeroValue e).run P w' = .ok z w' := ⟨run_zeroValue' hz w, run_zeroValue' hz⟩
  have hcapB : sCap < sLen + n → ¬ Builtin.nextslicecap (sLen + n) sCap * i.bytes > 281474976710656 := fun hlt => by
    have h1 := nextcap_le (sLen + n) sCap hlt
    have h2 : Builtin.nextslicecap (sLen + n) sCap * i.bytes ≤ 2 * (sLen + n) * i.bytes := Nat.mul_le_mul_right _ h1
    have h3 : 2 * (sLen + n) * i.bytes = 2 * ((sLen + n) * i.bytes) := Nat.mul_assoc ..
    omega
  rcases hx with ⟨k0, k, l, hxu, rfl, hl0, hl1, hn, rfl⟩ | ⟨hxu, hlen, hfst'⟩
  · -- a number of zeros
    · skip
      have hwrap : IntKind.i64.wrap l = l := by simp [IntKind.wrap, IntKind.bits, IntKind.signed]; omega
      have hbytes : l * (i.bytes : Int) ≤ 1099511627776 := by
        have e : ((n * i.bytes : Nat) : Int) = l * i.bytes := by rw [Int.natCast_mul, hn, Int.toNat_of_nonneg hl0]
        have : n * i.bytes ≤ (sLen + n) * i.bytes := Nat.mul_le_mul_right _ (by omega)
        omega
      have hp48 : (2 : Int) ^ 48 = 281474976710656 := rfl
      have hcells : ∀ w' : World, (if n * i.size = 0 then pure #[] else do pure (Builtin.zeroCells (← zeroValue e).cells n) : Sem (Array Value)).run P w' = .ok (repeated z.cells.toList n).toArray w' := fun w' => by
        have e1 : Builtin.zeroCells z.cells n = (repeated z.cells.toList n).toArray := by
          apply Array.toList_inj.1
          exact repeated_eq z.cells n
        split
        · next h0 =>
          have : n = 0 := by
            rcases Nat.mul_eq_zero.1 h0 with h | h
            · exact h
            · omega
          subst this
          rfl
        · simp [hz2, e1]
      have hbz : ¬ (l * (i.bytes : Int) > 281474976710656) := by omega
      have hl0' : ¬ l < 0 := by omega
      have e1 : Builtin.zeroCells z.cells l.toNat = (repeated z.cells.toList l.toNat).toArray := by
        apply Array.toList_inj.1
        exact repeated_eq z.cells l.toNat
      have e0 : l.toNat * i.size = 0 → repeated z.cells.toList l.toNat = [] := fun h0 => by
        have : l.toNat = 0 := by
          rcases Nat.mul_eq_zero.1 h0 with h | h
          · exact h
          · omega
        rw [this]; rfl
      subst hn
      refine ⟨fun hle w' hst => ?_, fun hlt old' hold => ?_⟩
      · simp [Builtin.append_, run_underlying hu, run_underlying hxu, run_sizeOf' (info_size hi), asInt, asIntOf, hwrap, hl0', typeInfo, hi, hbz, hle]
        split
        · next h0 =>
          rw [e0 h0] at hst
          cases a <;> simp at hst ⊢ <;> simp [hst]
        · simp [hz2, e1]
          cases a <;> simp at hst ⊢ <;> simp [hst]
      · have hnle : ¬ sLen + l.toNat ≤ sCap := by omega
        refine ⟨(Question.appendCap (sLen + l.toNat) sCap e).cut (w.tape w.drawn (.appendCap (sLen + l.toNat) sCap e)), w.drew, by simp [Question.cut], rfl, rfl, rfl, rfl, ?_⟩
        have hcap := hcapB hlt
        have hmax : ¬ ((sLen + l.toNat : Nat) : Int) > IntKind.i64.max := by have : IntKind.i64.max = 9223372036854775807 := rfl; omega
        have hold' := hold w.drew rfl
        have hdrew : ({ heap := w.heap, tape := w.tape, drawn := w.drawn + 1, os := w.os, output := w.output } : World) = w.drew := rfl
        have hmax' : ¬ (9223372036854775807 < ((sLen : Int) + (l.toNat : Int))) := by omega
        have hnc : ¬ (281474976710656 < Builtin.nextslicecap (sLen + l.toNat) sCap * i.bytes) := hcap
        simp [Builtin.append_, run_underlying hu, run_underlying hxu, run_sizeOf' (info_size hi), asInt, asIntOf, hwrap, hl0', typeInfo, hi, hbz, hnle]
        rw [if_neg (by intro h; exact hmax (by simpa using h)), if_neg hnc]
        simp [Question.forced, hdrew, hold', hz2, newRow]
        split
        · next h0 => simp [e0 h0]
        · simp [e1]
  · rcases hxu with ⟨e', hxu⟩ | hxu
    all_goals
      refine ⟨fun hle w' hst => ?_, fun hlt old' hold => ?_⟩
      · have hf := hfst' w rfl
        simp [Builtin.append_, run_underlying hu, run_underlying hxu, run_sizeOf' (info_size hi), hlen, hle, hf]
        cases a <;> simp at hst ⊢ <;> simp [hst]
      · have hnle : ¬ sLen + n ≤ sCap := by omega
        refine ⟨(Question.appendCap (sLen + n) sCap e).cut (w.tape w.drawn (.appendCap (sLen + n) sCap e)), w.drew, by simp [Question.cut], rfl, rfl, rfl, rfl, ?_⟩
        have hcap := hcapB hlt
        have hold' := hold w.drew rfl
        have hf := hfst' w.drew rfl
        have hdrew : ({ heap := w.heap, tape := w.tape, drawn := w.drawn + 1, os := w.os, output := w.output } : World) = w.drew := rfl
        have hnc : ¬ (281474976710656 < Builtin.nextslicecap (sLen + n) sCap * i.bytes) := hcap
        have hmax : ¬ ((sLen : Int) + (n : Int) > IntKind.i64.max) := by have : IntKind.i64.max = 9223372036854775807 := rfl; omega
        simp [Builtin.append_, run_underlying hu, run_underlying hxu, run_sizeOf' (info_size hi), hlen, hnle, typeInfo, hi]
        rw [if_neg (by rintro ⟨h, _⟩; exact hmax h), if_neg hnc]
        simp [Question.forced, hdrew, hold', hf, hz2, newRow]
end
end Go.Gh
/- The ghost machine: append, copy and clear go on together with the model's. -/
namespace Go.Gh
open Go.RowKit
set_option linter.unusedVariables false
set_option linter.unusedSimpArgs false
section
variable {P : Program} {base : Nat} {m : PM} {H : GH} {w : World}

/-- What is appended, on the model's side. -/
theorem gAppended_run {xt : TypeId} {i : TypeInfo} {z x x' : Value} {n : Nat} {new : List Value} (h : gAppended P xt i z x H = some (n, new)) (hcl : closed z = true) (hx : VR m x x') (hR : Rel P base m H w) :
    ∃ new', VRs m new new' ∧ ((∃ k0 k l, P.underlying xt = some (.int k0) ∧ x' = .int k l ∧ 0 ≤ l ∧ l ≤ 1099511627776 ∧ n = l.toNat ∧ new' = repeated z.cells.toList n) ∨
      (((∃ e', P.underlying xt = some (.slice e')) ∨ P.underlying xt = some .string) ∧ (Builtin.lenOf x').run P w = .ok n w ∧ ∀ w' : World, w'.heap = w.heap → (Builtin.firstCells i.size n x').run P w' = .ok new'.toArray w')) := by
  unfold gAppended at h
  split at h
  · next k0 k l hu =>
    split at h
    · next hok =>
      simp only [Option.some.injEq, Prod.mk.injEq] at h
      obtain ⟨rfl, rfl⟩ := h
      have e := hx.int_inv
      subst e
      exact ⟨_, repeated_VRs (closed_cells hcl) _, .inl ⟨k0, k, l, hu, rfl, hok.1, hok.2, rfl, rfl⟩⟩
    · cases h
  · next e' a l c hu =>
    obtain ⟨new0, hf, hh⟩ := Option.map_eq_some_iff.1 h
    simp only [Prod.mk.injEq] at hh
    obtain ⟨rfl, rfl⟩ := hh
    obtain ⟨vs', hr, hv⟩ := gFirst_run (P := P) hf hx hR (fun l' c' a' he => by injection he with _ e _; omega)
    exact ⟨vs', hv, .inr ⟨.inl ⟨e', hu⟩, gLen_run rfl hx, hr⟩⟩
  · next s hu =>
    obtain ⟨new0, hf, hh⟩ := Option.map_eq_some_iff.1 h
    simp only [Prod.mk.injEq] at hh
    obtain ⟨rfl, rfl⟩ := hh
    cases hx
    obtain ⟨vs', hr, hv⟩ := gFirst_run (P := P) hf (.string (m := m) s) hR (fun l' c' a' he => by cases he)
    exact ⟨vs', hv, .inr ⟨.inr hu, gLen_run rfl (.string (m := m) s), hr⟩⟩
  · cases h

theorem oneC_all {vs vs' : List Value} (hv : VRs m vs vs') (h : vs.all oneC = true) : vs'.all oneC = true := by
  rw [List.all_eq_true] at h ⊢
  intro x hx
  obtain ⟨i, hi, rfl⟩ := List.getElem_of_mem hx
  have hi' : i < vs.length := by rw [hv.1]; exact hi
  rw [(hv.2 i hi' hi).oneC_eq]
  exact h _ (List.getElem_mem hi')

theorem VRs.rest {cs : List Value} {arr : Array Value} (h : VRs m cs arr.toList) (ext : Array Value) : ∀ (i : Nat) (u : Value), cs[i]? = some u → ∃ u', (arr ++ ext)[i]? = some u' ∧ VR m u u' := fun i u hu => by
  obtain ⟨v, hv, hr⟩ := h.arr? i u hu
  exact ⟨v, by rw [Array.getElem?_append_left (Array.getElem?_eq_some_iff.1 hv).1]; exact hv, hr⟩

theorem gAppend_step {st xt ty : TypeId} {s s' x x' v : Value} {H' : GH} (h : gAppend P st xt s x H = some (v, H')) (hs : VR m s s') (hx : VR m x x') (hR : Rel P base m H w) (hb : base ≤ w.heap.size) :
    StepV P base m H w (Builtin.append_ #[st, xt] ty #[s', x']) v H' := by
  unfold gAppend at h
  split at h
  case h_2 => cases h
  next e a sLen sCap hu =>
  split at h
  case h_2 => cases h
  next i z hi hz =>
  obtain ⟨i', hi', _, hcl⟩ := gZero_some hz
  split at h
  · cases h
  next n new hap =>
  obtain ⟨new', hnew, hrx⟩ := gAppended_run (w := w) hap hcl hx hR
  split at h
  case isFalse => cases h
  next hok =>
  simp only [roomy, Bool.and_eq_true, decide_eq_true_eq, beq_iff_eq] at hok
  obtain ⟨⟨⟨⟨⟨⟨hroom, hroom2⟩, hone⟩, hnl⟩, hzs⟩, hpos⟩, hbp⟩ := hok
  have hone' := oneC_all hnew hone
  have hnl' : new'.length = n * i.size := by rw [← hnew.1]; exact hnl
  split at h
  · -- onto nil
    have es := hs.sliceNil_inv
    split at h
    case isFalse => cases h
    next h0 =>
    obtain ⟨rfl, rfl⟩ := h0
    obtain ⟨r1, r2⟩ := run_append (st := st) (xt := xt) (ty := ty) hu hi hz hrx hzs hpos es hroom hroom2
    split at h
    · next hn0 =>
      subst hn0
      simp only [Option.some.injEq, Prod.mk.injEq] at h
      obtain ⟨rfl, rfl⟩ := h
      exact ⟨_, w, m, r1 (by omega) w rfl, .sliceNil 0 0, hR, .refl _ _ _ _⟩
    · next hn0 =>
      simp only [Option.some.injEq, Prod.mk.injEq] at h
      obtain ⟨rfl, rfl⟩ := h
      obtain ⟨c, w1, hc, hh, ho, ht, hou, hr⟩ := r2 (by omega) #[] (fun w' _ => by rw [es]; simp [Builtin.firstCells])
      have hR1 := hR.drew hh
      have hG1 : Go1 base m m H H w w1 := Go1.drew hh ho ht hou
      obtain ⟨m', hm, _, h1, h2⟩ := hR1.newRow (by rw [hh]; exact hb) e i.size (info_size hi) new (#[] ++ new'.toArray ++ Builtin.zeroCells z.cells (c - (0 + n))) (VRs.rest (by simpa using hnew) _)
      refine ⟨_, _, m', hr, ?_, h1, hG1.trans h2⟩
      rw [hh] at hm
      have hz2 : (Builtin.zeroCells z.cells (c - (0 + n))).size = (c - (0 + n)) * i.size := by rw [size_zeroCells, hzs]
      have := VR.sliceL (m := m') (b := H.n) 0 0 n (loose + i.size) c hm rfl (by omega) (fun _ => rfl) (fun _ => by
        simp only [Array.size_append, hz2, List.size_toArray, hnl', Array.size_empty]
        have : c * i.size = n * i.size + (c - (0 + n)) * i.size := by rw [← Nat.add_mul]; congr 1; omega
        omega)
      simpa using this
  · next b o =>
    rcases hs.slice_inv with ⟨z1, z2, bb, oo, A', e1, rfl⟩ | ⟨b', p, o1, o', c', e1, hp, rfl, hnc, hoo, hcase⟩
    · subst z1; subst z2
      obtain ⟨r1, r2⟩ := run_append (st := st) (xt := xt) (ty := ty) hu hi hz hrx hzs hpos rfl hroom hroom2
      split at h
      · next hn0 =>
        subst hn0
        simp only [Option.some.injEq, Prod.mk.injEq] at h
        obtain ⟨rfl, rfl⟩ := h
        have hn0 : new' = [] := List.eq_nil_of_length_eq_zero (by omega)
        subst hn0
        exact ⟨_, w, m, r1 (by omega) w (by simp [storeCells]), by simpa using hs, hR, .refl _ _ _ _⟩
      next hn0 =>
      rw [if_pos (by unfold loose; omega), if_neg (by omega)] at h
      split at h
      case h_2 => cases h
      next old hold =>
      split at h
      case isFalse => cases h
      next hol =>
      simp only [Option.some.injEq, Prod.mk.injEq] at h
      obtain ⟨rfl, rfl⟩ := h
      obtain ⟨old', hor, hov⟩ := gFirst_run (P := P) hold hs hR (fun l c a he => by injection he with _ e _; omega)
      obtain ⟨c, w1, hc, hh, ho, ht, hou, hr⟩ := r2 (by omega) old'.toArray hor
      have hR1 := hR.drew hh
      have hG1 : Go1 base m m H H w w1 := Go1.drew hh ho ht hou
      obtain ⟨m', hm, _, h1, h2⟩ := hR1.newRow (by rw [hh]; exact hb) e i.size (info_size hi) (old ++ new) (old'.toArray ++ new'.toArray ++ Builtin.zeroCells z.cells (c - (0 + n))) (VRs.rest (by simpa using hov.append hnew) _)
      refine ⟨_, _, m', hr, ?_, h1, hG1.trans h2⟩
      rw [hh] at hm
      have hz2 : (Builtin.zeroCells z.cells (c - (0 + n))).size = (c - (0 + n)) * i.size := by rw [size_zeroCells, hzs]
      have hol' : old'.length = 0 * i.size := by rw [← hov.1]; exact hol
      exact VR.sliceL (m := m') (b := H.n) 0 0 _ _ c hm rfl hc (fun _ => rfl) (fun _ => by
        simp only [Array.size_append, hz2, List.size_toArray, hnl', hol']
        have : c * i.size = 0 * i.size + n * i.size + (c - (0 + n)) * i.size := by rw [← Nat.add_mul, ← Nat.add_mul]; congr 1; omega
        omega)
    injection e1 with e1 e2
    subst e1; subst e2
    obtain ⟨r1, r2⟩ := run_append (st := st) (xt := xt) (ty := ty) hu hi hz hrx hzs hpos rfl hroom hroom2
    split at h
    · next hn0 =>
      subst hn0
      simp only [Option.some.injEq, Prod.mk.injEq] at h
      obtain ⟨rfl, rfl⟩ := h
      have hn0 : new' = [] := List.eq_nil_of_length_eq_zero (by omega)
      subst hn0
      exact ⟨_, w, m, r1 (by omega) w (by simp [storeCells]), by simpa using hs, hR, .refl _ _ _ _⟩
    next hn0 =>
    split at h
    · next hlt =>
      have hex : c' = sCap ∧ (0 < sCap → o' = p.off + o) := by
        rcases hcase with ⟨_, h1, h2⟩ | ⟨h1, _⟩
        · exact ⟨h1, h2⟩
        · omega
      obtain ⟨rfl, ho'⟩ := hex
      split at h
      · next hfit =>
        -- within the capacity
        obtain ⟨H1, hst, hh⟩ := Option.map_eq_some_iff.1 h
        simp only [Prod.mk.injEq] at hh
        obtain ⟨rfl, rfl⟩ := hh
        obtain ⟨w', hrun, g1, g2⟩ := gStoreCells_VR hst hp hnew hR
        have e := ho' (by omega)
        subst e
        refine ⟨_, w', m, r1 hfit w' ?_, .slice _ _ _ _ hp hlt (by omega) (fun _ => rfl), g1, g2⟩
        simp only [add_none, ← Nat.add_assoc] at hrun ⊢
        exact hrun
      · next hfit =>
        split at h
        case h_2 => cases h
        next old hold =>
        split at h
        case isFalse => cases h
        next hol =>
        simp only [Option.some.injEq, Prod.mk.injEq] at h
        obtain ⟨rfl, rfl⟩ := h
        obtain ⟨old', hor, hov⟩ := gFirst_run (P := P) hold hs hR (fun l c a he => by injection he with _ e _; omega)
        obtain ⟨c, w1, hc, hh, ho, ht, hou, hr⟩ := r2 (by omega) old'.toArray hor
        have hR1 := hR.drew hh
        have hG1 : Go1 base m m H H w w1 := Go1.drew hh ho ht hou
        obtain ⟨m', hm, _, h1, h2⟩ := hR1.newRow (by rw [hh]; exact hb) e i.size (info_size hi) (old ++ new) (old'.toArray ++ new'.toArray ++ Builtin.zeroCells z.cells (c - (sLen + n))) (VRs.rest (by simpa using hov.append hnew) _)
        refine ⟨_, _, m', hr, ?_, h1, hG1.trans h2⟩
        rw [hh] at hm
        have hz2 : (Builtin.zeroCells z.cells (c - (sLen + n))).size = (c - (sLen + n)) * i.size := by rw [size_zeroCells, hzs]
        have hol' : old'.length = sLen * i.size := by rw [← hov.1]; exact hol
        exact VR.sliceL (m := m') (b := H.n) 0 0 _ _ c hm rfl hc (fun _ => rfl) (fun _ => by
          simp only [Array.size_append, hz2, List.size_toArray, hnl', hol']
          have : c * i.size = sLen * i.size + n * i.size + (c - (sLen + n)) * i.size := by rw [← Nat.add_mul, ← Nat.add_mul]; congr 1; omega
          omega)
    · next hlt =>
      split at h
      case isFalse => cases h
      next hcap =>
      split at h
      case h_2 => cases h
      next cs e' old hg hold =>
      split at h
      case isFalse => cases h
      next hee =>
      obtain ⟨rfl, hol⟩ := hee
      simp only [Option.some.injEq, Prod.mk.injEq] at h
      obtain ⟨rfl, rfl⟩ := h
      have hlo : sCap = loose + p.sz ∧ (p.rw = true → o' + c' * p.sz ≤ p.tot) := by
        rcases hcase with ⟨h1, _⟩ | h1
        · exact absurd h1 hlt
        · exact h1
      obtain ⟨hcp, hw⟩ := hlo
      have hsz : p.sz = i.size := by omega
      obtain ⟨arr, t, fr, hh, hrw, _, hww, hc⟩ := hR.row hp hg
      obtain ⟨rfl, hfr, htot, hsz', hbk⟩ := hww rfl
      have hrw' : p.rw = true := by rw [hrw]; rfl
      have hw := hw hrw'
      obtain ⟨old', hor, hov⟩ := gFirst_run (P := P) hold hs hR (fun l c a he => by injection he with _ e _; omega)
      have hol' : old'.length = sLen * i.size := by rw [← hov.1]; exact hol
      -- the old ghost block is given up
      have hdead := hR.turn (o := .dead) (w' := w) (r := .cells arr t fr) hp (by rw [hg]; rfl) hbk (by
        apply Array.ext_getElem?
        intro k
        rw [Array.getElem?_setIfInBounds]
        by_cases e : p.blk = k
        · subst e
          rw [if_pos rfl, hh, if_pos (Array.getElem?_eq_some_iff.1 hh).1]
        · rw [if_neg e]) rfl rfl rfl .dead (fun q hq => by rw [hh] at hq; cases hq) (fun ds hd => by rw [hh] at hd; cases hd) (hR.alone hp (by rw [hg]; rfl) hbk)
      obtain ⟨hRd, hGd⟩ := hdead
      rcases Nat.lt_or_ge c' (sLen + n) with hgrow | hfit
      · obtain ⟨c, w1, hc1, hh1, ho, ht, hou, hr⟩ := r2 hgrow old'.toArray hor
        have hR1 := hRd.drew hh1
        have hG1 : Go1 base m m (H.set b .dead) (H.set b .dead) w w1 := Go1.drew hh1 ho ht hou
        obtain ⟨m', hm, _, h1, h2⟩ := hR1.newRow (by rw [hh1]; exact hb) t i.size (info_size hi) (old ++ new) (old'.toArray ++ new'.toArray ++ Builtin.zeroCells z.cells (c - (sLen + n))) (VRs.rest (by simpa using hov.append hnew) _)
        refine ⟨_, _, m', hr, ?_, h1, (hGd.trans hG1).trans h2⟩
        rw [hh1] at hm
        have hz2 : (Builtin.zeroCells z.cells (c - (sLen + n))).size = (c - (sLen + n)) * i.size := by rw [size_zeroCells, hzs]
        exact VR.sliceL (m := m') (b := H.n) 0 0 _ _ c hm rfl hc1 (fun _ => rfl) (fun _ => by
          simp only [Array.size_append, hz2, List.size_toArray, hnl', hol']
          have : c * i.size = sLen * i.size + n * i.size + (c - (sLen + n)) * i.size := by rw [← Nat.add_mul, ← Nat.add_mul]; congr 1; omega
          omega)
      · -- in place
        have hspan : o' + (sLen + n) * i.size ≤ arr.size := by
          have : (sLen + n) * i.size ≤ c' * i.size := Nat.mul_le_mul_right _ hfit
          rw [hsz] at hw
          omega
        have hmul : (sLen + n) * i.size = sLen * i.size + n * i.size := Nat.add_mul ..
        have hone2 : ∀ v ∈ new', v.oneCell' = true := fun v hv => oneC_one (List.all_eq_true.1 hone' v hv)
        have hrun := run_storeCells_fr (P := P) p.blk (o' + sLen * i.size) t fr new' 0 arr w hh hfr (by rw [hnl']; omega) hone2
        have hrw2 := r1 hfit _ (by simp only [add_none]; exact hrun)
        -- what lies there now
        let arr' : Array Value := (arr.toList.take (o' + sLen * i.size + 0) ++ new' ++ arr.toList.drop (o' + sLen * i.size + 0 + new'.length)).toArray
        have hset := setRow_eq w p.blk arr arr' t fr hh
        have hal := hR.alone hp (by rw [hg]; rfl) hbk
        obtain ⟨hR2, hG2⟩ := hR.turn (o := .dead) (w' := w.setRow p.blk arr') (r := .cells arr' t fr) hp (by rw [hg]; rfl) hbk hset rfl rfl rfl .dead (fun q hq => by rw [hh] at hq; cases hq) (fun ds hd => by rw [hh] at hd; cases hd) hal
        let q : Pin := ⟨p.blk, o', p.tot, p.sz, true⟩
        have hle := hR2.put_le q
        have hold' : old = (cs.drop o).take (sLen * i.size) := by
          simp only [gFirst, hg] at hold
          split at hold
          · injection hold with hold; exact hold.symm
          · cases hold
        have hsz2 : arr'.size = p.tot := by
          simp only [arr', List.size_toArray, List.length_append, List.length_take, List.length_drop, Array.length_toList, hnl']
          omega
        have hlt2 : (arr.toList.take (o' + sLen * i.size + 0)).length = o' + sLen * i.size := by simp; omega
        have hrow : ∀ (k : Nat) (u : Value), (old ++ new)[k]? = some u → ∃ u', arr'[o' + k]? = some u' ∧ VR m u u' := by
          intro k u hk
          simp only [arr']
          rw [List.getElem?_toArray, List.append_assoc]
          rcases Nat.lt_or_ge k old.length with hlt' | hge
          · rw [List.getElem?_append_left hlt', hold'] at hk
            rw [List.getElem?_append_left (by rw [hlt2]; omega), List.getElem?_take_of_lt (by omega), Array.getElem?_toList]
            rw [List.getElem?_take_of_lt (by omega), List.getElem?_drop] at hk
            obtain ⟨u', h1, h2⟩ := hc (o + k) u hk
            have hs0 : 0 < sLen := by
              rcases Nat.eq_zero_or_pos sLen with h0 | h0
              · subst h0; omega
              · exact h0
            have e := hoo hs0
            exact ⟨u', by rw [← h1]; congr 1; omega, h2⟩
          · rw [List.getElem?_append_right hge] at hk
            rw [List.getElem?_append_right (by rw [hlt2]; omega), hlt2]
            have e1 : o' + k - (o' + sLen * i.size) = k - old.length := by omega
            rw [e1]
            have hkl : k - old.length < new.length := (List.getElem?_eq_some_iff.1 hk).1
            rw [List.getElem?_append_left (by rw [hnl']; omega)]
            exact hnew.get? hk
        obtain ⟨hR3, hG3⟩ := hR2.adopt (.row (old ++ new) t false) (.cells arr' t fr) q (setRow_heap w p.blk arr arr' t fr hh)
          (.row rfl (fun h => by cases h) (fun _ => ⟨rfl, by rw [hsz2, ← htot]; exact hfr, hsz2, hsz', hbk⟩) fun k u hk => by
            obtain ⟨u', h1, h2⟩ := hrow k u hk
            exact ⟨u', h1, h2.mono hle⟩)
          (fun c s hcs hblk => by
            by_cases e : c = b
            · subst e
              rw [GH.get_set_same hg]; rfl
            · rw [GH.get_set_other (Ne.symm e) (hR.id_lt hp), hal c s hcs hblk e]; rfl)
          ⟨b, p, hp, rfl, by rw [GH.set_lo]; omega⟩
        refine ⟨_, _, _, hrw2, ?_, hR3, hG2.trans hG3⟩
        have hmq : (m.put (H.set b .dead).n q) H.n = some q := PM.put_same _ _ _
        exact VR.sliceL (b := H.n) (p := q) 0 o' _ _ c' hmq (by show loose + i.size = loose + p.sz; omega) hfit (fun _ => by show o' = o' + 0; omega) (fun _ => hw)
  · cases h

theorem gCopy_step {dt ty s0 : TypeId} {d d' s s' v : Value} {H' : GH} (h : gCopy P dt d s H = some (v, H')) (hd : VR m d d') (hs : VR m s s') (hR : Rel P base m H w) (tys : Array TypeId) (htys : tys[0]? = some dt) :
    StepV P base m H w (Builtin.copy_ tys ty #[d', s']) v H' := by
  unfold gCopy at h
  split at h
  case h_2 => cases h
  next e a dLen dCap sn hu hl =>
  have hlen := gLen_run (P := P) (w := w) hl hs
  simp only at h
  split at h
  · cases h
  next size hsz =>
  split at h
  · cases h
  next new hf =>
  obtain ⟨new', hnr, hnv⟩ := gFirst_run (P := P) hf hs hR (fun l c a he => by
    subst he
    simp only [gLen, Option.some.injEq] at hl
    subst hl
    exact Nat.min_le_left _ _)
  have hrun0 := hnr w rfl
  split at h
  · have e1 := hd.sliceNil_inv
    subst e1
    simp only [Option.some.injEq, Prod.mk.injEq] at h
    obtain ⟨rfl, rfl⟩ := h
    refine ⟨_, w, m, ?_, .int _ _, hR, .refl _ _ _ _⟩
    simp [Builtin.copy_, htys, run_underlying hu, hlen, run_sizeOf' hsz, hrun0, goInt]
  · next b o =>
    rcases hd.slice_inv with ⟨z1, z2, bb, oo, A', e1, rfl⟩ | ⟨b', p, o1, o', c', e1, hp, rfl, hnc, hoo, hcase⟩
    · subst z1; subst z2
      rw [if_pos (Nat.min_zero _)] at h
      have h0 : Nat.min sn 0 = 0 := Nat.min_zero _
      simp only [Option.some.injEq, Prod.mk.injEq] at h
      obtain ⟨rfl, rfl⟩ := h
      have hnil : new' = [] := by
        refine List.eq_nil_of_length_eq_zero ?_
        rw [← hnv.1]
        unfold gFirst at hf
        rw [h0] at hf
        split at hf
        · injection hf with hf; subst hf; rfl
        · split at hf
          · split at hf
            · injection hf with hf; subst hf; simp
            · cases hf
          · cases hf
        · injection hf with hf; subst hf; simp
        · cases hf
      subst hnil
      refine ⟨_, w, m, ?_, .int _ _, hR, .refl _ _ _ _⟩
      have h0' : min sn 0 = 0 := h0
      have hrun1 : (Builtin.firstCells size 0 s').run P w = .ok #[] w := by have := hrun0; rw [h0] at this; exact this
      simp [Builtin.copy_, htys, run_underlying hu, hlen, run_sizeOf' hsz, h0', hrun1, goInt, storeCells]
    injection e1 with e1 e2
    subst e1; subst e2
    split at h
    · next h0 =>
      simp only [Option.some.injEq, Prod.mk.injEq] at h
      obtain ⟨rfl, rfl⟩ := h
      have hnil : new' = [] := by
        refine List.eq_nil_of_length_eq_zero ?_
        rw [← hnv.1]
        unfold gFirst at hf
        rw [h0] at hf
        split at hf
        · injection hf with hf; subst hf; rfl
        · split at hf
          · split at hf
            · injection hf with hf; subst hf; simp
            · cases hf
          · cases hf
        · injection hf with hf; subst hf; simp
        · cases hf
      subst hnil
      refine ⟨_, w, m, ?_, .int _ _, hR, .refl _ _ _ _⟩
      have h0' : min sn dLen = 0 := h0
      have hrun1 : (Builtin.firstCells size 0 s').run P w = .ok #[] w := by have := hrun0; rw [h0] at this; exact this
      simp [Builtin.copy_, htys, run_underlying hu, hlen, run_sizeOf' hsz, h0', hrun1, goInt, storeCells]
    · next h0 =>
      obtain ⟨H1, hst, hh⟩ := Option.map_eq_some_iff.1 h
      simp only [Prod.mk.injEq] at hh
      obtain ⟨rfl, rfl⟩ := hh
      have hpos : 0 < dLen := by
        rcases Nat.eq_zero_or_pos dLen with hz | hz
        · exact absurd (by rw [hz]; exact Nat.min_zero _) h0
        · exact hz
      have e := hoo hpos
      subst e
      obtain ⟨w', hrun, g1, g2⟩ := gStoreCells_VR hst hp hnv hR
      refine ⟨_, w', m, ?_, .int _ _, g1, g2⟩
      have hrun1 : (Builtin.firstCells size (min sn dLen) s').run P w = .ok new'.toArray w := hrun0
      simp [Builtin.copy_, htys, run_underlying hu, hlen, run_sizeOf' hsz, hrun1, goInt, hrun]
  · cases h

theorem gClear_step {t ty : TypeId} {x x' : Value} {H' : GH} (h : gClear P t x H = some H') (hx : VR m x x') (hR : Rel P base m H w) :
    StepV P base m H w (Builtin.clear_ #[t] ty #[x']) (.tuple #[]) H' := by
  have tup : VR m (.tuple #[]) (.tuple #[]) := VR.undef
  unfold gClear at h
  split at h
  · next hu =>
    injection h with h; subst h
    have e := hx.sliceNil_inv
    subst e
    exact ⟨_, w, m, by simp [Builtin.clear_, run_underlying hu], tup, hR, .refl _ _ _ _⟩
  · next hu =>
    injection h with h; subst h
    refine ⟨_, w, m, ?_, tup, hR, .refl _ _ _ _⟩
    cases hx <;> simp [Builtin.clear_, run_underlying hu]
  · next e b o n c hnz hu =>
    split at h
    case h_2 => cases h
    next i z hi hz =>
    obtain ⟨i', hi', _, hcl⟩ := gZero_some hz
    split at h
    case isFalse => cases h
    next hok =>
    obtain ⟨hzs, hpos⟩ := hok
    obtain ⟨b', p, o1, o', c', e1, hp, rfl, hnc, hoo, hcase⟩ := hx.slice_inv.resolve_left (fun ⟨z1, _⟩ => hnz z1)
    injection e1 with e1 e2
    subst e1; subst e2
    have hn : 0 < n := by
      rcases Nat.eq_zero_or_pos n with h0 | h0
      · exact (hnz h0).elim
      · exact h0
    have e := hoo hn
    subst e
    obtain ⟨w', hrun, g1, g2⟩ := gStoreCells_VR h hp (repeated_VRs (closed_cells hcl) n) hR
    have e1 : (Builtin.zeroCells z.cells n).toList = repeated z.cells.toList n := repeated_eq z.cells n
    refine ⟨_, w', m, ?_, tup, g1, g2⟩
    have hne : n ≠ 0 := by omega
    obtain ⟨n, rfl⟩ : ∃ k, n = k + 1 := ⟨n - 1, by omega⟩
    simp [Builtin.clear_, run_underlying hu, run_zeroValue' hz, e1, hrun]
  · cases h
end
end Go.Gh
