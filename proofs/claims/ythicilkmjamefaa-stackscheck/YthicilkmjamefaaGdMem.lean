/- The ghost machine: the operations that touch memory, maps left out. -/
import Derived.Test.YthicilkmjamefaaGcPureB
import Derived.Laws.MakeOwn
namespace Go.Gh
open Go.RowKit
set_option linter.unusedVariables false
set_option linter.unusedSimpArgs false
section
variable {P : Program} {base : Nat} {m : PM} {H : GH} {w : World}

theorem Rel.row (h : Rel P base m H w) {b : Nat} {p : Pin} {cs : List Value} {e : TypeId} {ro : Bool} (hb : m b = some p) (hg : H.get b = some (.row cs e ro)) :
    ∃ arr t fr, w.heap[p.blk]? = some (.cells arr t fr) ∧ p.rw = (!ro) ∧ (ro = true → p.blk < base) ∧ (ro = false → t = e ∧ fr = (0, 0) ∧ arr.size = p.tot ∧ gSize P e = some p.sz ∧ base ≤ p.blk) ∧
      ∀ (i : Nat) (u : Value), cs[i]? = some u → ∃ u', arr[p.off + i]? = some u' ∧ VR m u u' := by
  obtain ⟨o, r, ho, hr, hor⟩ := h.obj b p hb
  rw [hg] at ho
  injection ho with ho
  subst ho
  cases hor with
  | row hro hold hrw hc => exact ⟨_, _, _, hr, hro, hold, hrw, hc⟩

/-- A stretch of a row, as it is read. -/
theorem Rel.seg (h : Rel P base m H w) {b : Nat} {p : Pin} {cs : List Value} {e : TypeId} {ro : Bool} (hb : m b = some p) (hg : H.get b = some (.row cs e ro)) (o n : Nat) (hn : o + n ≤ cs.length) :
    ∃ ds : List Value, ds.length = n ∧ VRs m ((cs.drop o).take n) ds ∧ (∀ w' : World, w'.heap = w.heap → (loadCells ⟨p.blk, p.off + o, none⟩ n).run P w' = .ok ds.toArray w') ∧ ∀ j u, ds[j]? = some u → w.cell? ⟨p.blk, p.off + o + j, none⟩ = some u := by
  obtain ⟨arr, t, fr, hh, _, _, _, hc⟩ := h.row hb hg
  have hin : ∀ j, j < n → ∃ u u', cs[o + j]? = some u ∧ arr[p.off + (o + j)]? = some u' ∧ VR m u u' := fun j hj => by
    obtain ⟨u', h1, h2⟩ := hc (o + j) cs[o + j] (List.getElem?_eq_getElem (by omega))
    exact ⟨_, u', List.getElem?_eq_getElem (by omega), h1, h2⟩
  have hcell : ∀ j, j < n → w.cell? ⟨p.blk, p.off + o + j, none⟩ = arr[p.off + (o + j)]? := fun j _ => by
    simp [World.cell?, hh, Nat.add_assoc]
  have hf : ∀ j, j < n → arr[p.off + (o + j)]? = some (arr.getD (p.off + (o + j)) undef) := fun j hj => by
    obtain ⟨_, u', _, h2, _⟩ := hin j hj
    rw [h2]
    simp [Array.getD_eq_getD_getElem?, h2]
  refine ⟨(List.range n).map fun j => arr.getD (p.off + (o + j)) undef, by simp, ?_, ?_, ?_⟩
  · refine VRs.of_get? (by simp; omega) fun i u v hu hv => ?_
    have hi : i < n := by
      rcases Nat.lt_or_ge i n with hi | hi
      · exact hi
      · rw [List.getElem?_take_eq_none hi] at hu; cases hu
    rw [List.getElem?_take_of_lt hi, List.getElem?_drop] at hu
    obtain ⟨u0, u', h1, h2, h3⟩ := hin i hi
    rw [hu] at h1
    injection h1 with h1
    subst h1
    have : v = u' := by
      rw [List.getElem?_map, List.getElem?_range hi] at hv
      simp only [Option.map_some, Option.some.injEq] at hv
      rw [← hv]
      simp [Array.getD_eq_getD_getElem?, h2]
    subst this
    exact h3
  · intro w' hw'
    refine (run_loadCells w' _ n (fun j => arr.getD (p.off + (o + j)) undef) fun j hj => ?_)
    have hcw : ∀ a, w'.cell? a = w.cell? a := fun a => by simp [World.cell?, hw']
    rw [add_none, hcw, hcell j hj, hf j hj]
  · intro j u hu
    have hj : j < n := by
      have := (List.getElem?_eq_some_iff.1 hu).1
      simpa using this
    rw [List.getElem?_map, List.getElem?_range hj] at hu
    simp only [Option.map_some, Option.some.injEq] at hu
    rw [hcell j hj, hf j hj, hu]

theorem gLoad_VR {t : TypeId} {v v' u : Value} (h : gLoad P t v H = some u) (hv : VR m v v') (hR : Rel P base m H w) : ∃ u', (Instr.loadAt t v').run P w = .ok u' w ∧ VR m u u' := by
  unfold gLoad at h
  split at h
  · next b o =>
    obtain ⟨b', p, o', e, hp, rfl⟩ := hv.ptr_inv
    injection e with e1 e2
    subst e1; subst e2
    split at h
    · next cs e ro d s hg hu hs =>
      split at h
      · next hag =>
        split at h
        · next hle =>
          injection h with h
          subst h
          obtain ⟨ds, hl, hr, hld, _⟩ := hR.seg hp hg o s hle
          refine ⟨.agg ds.toArray, ?_, ?_⟩
          · simp [Instr.loadAt, Instr.sureAddr, loadVar, run_isAgg hu, hag, run_sizeOf' hs, hld w rfl]
          · exact VR.aggL hr
        · cases h
      · next hag =>
        have hag : gIsAgg P t = false := by simpa using hag
        obtain ⟨arr, t', fr, hh, _, _, _, hc⟩ := hR.row hp hg
        obtain ⟨u', h1, h2⟩ := hc o u h
        refine ⟨u', ?_, h2⟩
        have hcell : w.cell? ⟨p.blk, p.off + o, none⟩ = some u' := by simp [World.cell?, hh, h1]
        simp [Instr.loadAt, Instr.sureAddr, loadVar, run_isAgg hu, hag, hcell]
    · cases h
  · cases h

theorem setRow_eq (w : World) (g : Nat) (old cs : Array Value) (t : TypeId) (fr : Nat × Nat) (hg : w.heap[g]? = some (.cells old t fr)) : (w.setRow g cs).heap = w.heap.setIfInBounds g (.cells cs t fr) := by
  have hlt : g < w.heap.size := (Array.getElem?_eq_some_iff.1 hg).1
  have hv : w.heap[g] = .cells old t fr := (Array.getElem?_eq_some_iff.1 hg).2
  apply Array.ext_getElem?
  intro i
  simp only [World.setRow, Array.getElem?_modify, Array.getElem?_setIfInBounds]
  by_cases e : g = i
  · subst e
    simp [hlt, hv]
  · simp [e]

theorem oneC_one {v : Value} (h : oneC v = true) : v.oneCell' = true := by cases v <;> first | rfl | simp [oneC] at h

/-- A store into a row of the call's own. -/
theorem gStoreCells_VR {b o : Nat} {p : Pin} {vs vs' : List Value} {H' : GH} (h : gStoreCells b o vs H = some H') (hp : m b = some p) (hv : VRs m vs vs') (hR : Rel P base m H w) :
    ∃ w', (storeCells ⟨p.blk, p.off + o, none⟩ vs').run P w = .ok () w' ∧ Rel P base m H' w' ∧ Go1 base m m H H' w w' := by
  unfold gStoreCells at h
  split at h
  · next cs e hg =>
    split at h
    · next hok =>
      obtain ⟨hle, hone⟩ := hok
      injection h with h
      subst h
      obtain ⟨arr, t, fr, hh, hrw, _, hw, hc⟩ := hR.row hp hg
      obtain ⟨rfl, rfl, htot, hsz, hbk⟩ := hw rfl
      have hlast : ∀ i, i < cs.length → p.off + i < arr.size := fun i hi => by
        obtain ⟨u', h1, _⟩ := hc i cs[i] (List.getElem?_eq_getElem hi)
        exact (Array.getElem?_eq_some_iff.1 h1).1
      have hroom : p.off + o + 0 + vs'.length ≤ arr.size ∨ vs' = [] := by
        cases vs' with
        | nil => exact .inr rfl
        | cons x xs =>
          left
          have := hv.1
          have hl : o + (x :: xs).length ≤ cs.length := by rw [← this]; exact hle
          have := hlast (o + (x :: xs).length - 1) (by simp only [List.length_cons] at hl ⊢; omega)
          simp only [List.length_cons] at hl this ⊢
          omega
      have hone' : ∀ v ∈ vs', v.oneCell' = true := fun v hvm => by
        obtain ⟨i, hi, rfl⟩ := List.getElem_of_mem hvm
        have hi' : i < vs.length := by rw [hv.1]; exact hi
        exact oneC_one (by rw [(hv.2 i hi' hi).oneC_eq]; exact List.all_eq_true.1 hone _ (List.getElem_mem hi'))
      rcases hroom with hroom | hnil
      · have hrun := run_storeCells_at (P := P) p.blk (p.off + o) t vs' 0 arr w hh hroom hone'
        refine ⟨_, hrun, hR.turn hp (by rw [hg]; rfl) hbk (setRow_eq w p.blk arr _ t (0, 0) hh) rfl rfl rfl ?_ (fun q hq => by rw [hh] at hq; cases hq) (fun ds hd => by rw [hh] at hd; cases hd) (hR.alone hp (by rw [hg]; rfl) hbk)⟩
        refine .row hrw (fun h => by cases h) (fun _ => ⟨rfl, rfl, ?_, hsz, hbk⟩) fun i u hu => ?_
        · simp only [List.size_toArray, List.length_append, List.length_take, List.length_drop, Array.length_toList]
          omega
        · simp only [Nat.add_zero] at *
          have hlen : (cs.take o).length = o := by simp; omega
          have hlen' : (arr.toList.take (p.off + o)).length = p.off + o := by simp; omega
          rw [List.getElem?_toArray]
          unfold putAt at hu
          rw [List.append_assoc] at hu ⊢
          rcases Nat.lt_or_ge i o with hi | hi
          · rw [List.getElem?_append_left (by omega), List.getElem?_take_of_lt hi] at hu
            rw [List.getElem?_append_left (by omega), List.getElem?_take_of_lt (by omega), Array.getElem?_toList]
            exact hc i u hu
          · rw [List.getElem?_append_right (by omega), hlen] at hu
            rw [List.getElem?_append_right (by omega), hlen']
            have ei : p.off + i - (p.off + o) = i - o := by omega
            rw [ei]
            rcases Nat.lt_or_ge (i - o) vs.length with hj | hj
            · rw [List.getElem?_append_left hj] at hu
              rw [List.getElem?_append_left (by rw [← hv.1]; exact hj)]
              exact hv.get? hu
            · rw [List.getElem?_append_right hj, List.getElem?_drop] at hu
              rw [List.getElem?_append_right (by rw [← hv.1]; exact hj), List.getElem?_drop, Array.getElem?_toList, ← hv.1]
              have e1 : o + vs.length + (i - o - vs.length) = i := by omega
              have e2 : p.off + o + vs.length + (i - o - vs.length) = p.off + i := by omega
              rw [e1] at hu
              rw [e2]
              exact hc i u hu
      · subst hnil
        have hv0 : vs = [] := List.eq_nil_of_length_eq_zero (by simpa using hv.1)
        subst hv0
        have hput : putAt cs o [] = cs := by simp [putAt]
        rw [hput]
        refine ⟨w, rfl, ?_⟩
        have := hR.turn (o := .row cs t false) (w' := w) (r := .cells arr t (0, 0)) hp (by rw [hg]; rfl) hbk ?_ rfl rfl rfl (.row hrw (fun h => by cases h) (fun _ => ⟨rfl, rfl, htot, hsz, hbk⟩) hc) (fun q hq => by rw [hh] at hq; cases hq) (fun ds hd => by rw [hh] at hd; cases hd) (hR.alone hp (by rw [hg]; rfl) hbk)
        · exact this
        · apply Array.ext_getElem?
          intro i
          rw [Array.getElem?_setIfInBounds]
          by_cases e : p.blk = i
          · subst e
            rw [if_pos rfl, hh, if_pos (Array.getElem?_eq_some_iff.1 hh).1]
          · rw [if_neg e]
    · cases h
  · cases h

theorem gStore_VR {t : TypeId} {a a' v v' : Value} {H' : GH} (h : gStore P t a v H = some H') (ha : VR m a a') (hv : VR m v v') (hR : Rel P base m H w) :
    ∃ w', (Instr.storeAt t a' v').run P w = .ok () w' ∧ Rel P base m H' w' ∧ Go1 base m m H H' w w' := by
  unfold gStore at h
  split at h
  · next b o =>
    obtain ⟨b', p, o', e, hp, rfl⟩ := ha.ptr_inv
    injection e with e1 e2
    subst e1; subst e2
    split at h
    · next s hs =>
      split at h
      · next hsz =>
        obtain ⟨w', hr, h1, h2⟩ := gStoreCells_VR h hp hv.cells hR
        refine ⟨w', ?_, h1, h2⟩
        have e : v'.cells.size = s := by have := hv.cells.1; simp only [Array.length_toList] at this; omega
        simp [Instr.storeAt, Instr.sureAddr, storeVar, run_sizeOf' hs, e, hr]
      · cases h
    · cases h
  · cases h

/-! ### New rows -/
theorem Rel.newRow (hR : Rel P base m H w) (hb : base ≤ w.heap.size) (e : TypeId) (s : Nat) (hs : gSize P e = some s) (cs : List Value) (arr : Array Value) (hv : ∀ (i : Nat) (u : Value), cs[i]? = some u → ∃ u', arr[i]? = some u' ∧ VR m u u') :
    ∃ m', m' H.n = some ⟨w.heap.size, 0, arr.size, s, true⟩ ∧ PM.le m m' ∧ Rel P base m' (H.push (.row cs e false)) (w.alloc (.cells arr e)) ∧ Go1 base m m' H (H.push (.row cs e false)) w (w.alloc (.cells arr e)) := by
  let p : Pin := ⟨w.heap.size, 0, arr.size, s, true⟩
  have hle := hR.put_le p
  have hn := hR.new hb (.row cs e false) (.cells arr e) p rfl (.row rfl (fun h => by cases h) (fun _ => ⟨rfl, rfl, rfl, hs, hb⟩) fun i u hu => by
    obtain ⟨u', h1, h2⟩ := hv i u hu
    exact ⟨u', by rw [show p.off + i = i from Nat.zero_add i]; exact h1, h2.mono hle⟩)
  exact ⟨m.put H.n p, PM.put_same _ _ _, hle, hn.1, hn.2⟩

theorem VRs.arr? {cs : List Value} {arr : Array Value} (h : VRs m cs arr.toList) : ∀ (i : Nat) (u : Value), cs[i]? = some u → ∃ u', arr[i]? = some u' ∧ VR m u u' := fun i u hu => by
  obtain ⟨v, hv, hr⟩ := h.get? hu
  exact ⟨v, by rwa [Array.getElem?_toList] at hv, hr⟩

theorem repeated_eq (z : Array Value) (n : Nat) : (madeCells z (n * z.size)).toList = repeated z.toList n := by
  unfold madeCells repeated
  induction n with
  | zero => simp
  | succ n ih =>
    rw [List.replicate_succ, List.flatten_cons, ← ih]
    have e : (n + 1) * z.size = z.size + n * z.size := by rw [Nat.add_mul]; omega
    simp only [Array.toList_map, Array.toList_range, e, List.range_add, List.map_append, List.map_map]
    congr 1
    · apply List.ext_getElem?
      intro i
      rcases Nat.lt_or_ge i z.size with hi | hi
      · rw [List.getElem?_map, List.getElem?_range hi, Array.getElem?_toList]
        simp [Nat.mod_eq_of_lt hi, hi]
      · rw [List.getElem?_eq_none (by simpa using hi), List.getElem?_eq_none (by simpa using hi)]
    · apply List.map_congr_left
      intro i _
      simp
theorem repeated_length (z : List Value) (n : Nat) : (repeated z n).length = n * z.length := by
  simp [repeated, List.length_flatten]
theorem repeated_all {z : List Value} {p : Value → Bool} (h : z.all p = true) (n : Nat) : (repeated z n).all p = true := by
  rw [List.all_eq_true] at h ⊢
  intro x hx
  unfold repeated at hx
  rw [List.mem_flatten] at hx
  obtain ⟨l, hl, hx⟩ := hx
  rw [(List.mem_replicate.1 hl).2] at hx
  exact h x hx
theorem closed_cells {z : Value} (h : closed z = true) : VRs m z.cells.toList z.cells.toList := (closed_VR h).cells
theorem repeated_VRs {z : List Value} (h : VRs m z z) (n : Nat) : VRs m (repeated z n) (repeated z n) := by
  induction n with
  | zero => exact VRs.nil
  | succ n ih =>
    have e : repeated z (n + 1) = z ++ repeated z n := by simp [repeated, List.replicate_succ]
    rw [e]
    exact h.append ih
end
end Go.Gh
