/- The ghost machine: iterators. -/
import Derived.Test.YthicilkmjamefaaGeMapsB
namespace Go.Gh
open Go.RowKit
set_option linter.unusedVariables false
set_option linter.unusedSimpArgs false
section
variable {P : Program} {base : Nat} {m : PM} {H : GH} {w : World}

theorem choose_run (n : Nat) (hn : 0 < n) (w : World) : ∃ i w1, i < n ∧ (choose (.mapNext n)).run P w = .ok i w1 ∧ w1.heap = w.heap ∧ w1.os = w.os ∧ w1.tape = w.tape ∧ w1.output = w.output := by
  by_cases h : n ≤ 1
  · exact ⟨0, w, hn, by simp [Question.forced, h], rfl, rfl, rfl, rfl⟩
  · exact ⟨_, w.drew, Nat.mod_lt _ hn, by simp [Question.forced, h, Question.cut]; rfl, rfl, rfl, rfl, rfl⟩

/-- A step of which one of several outcomes comes. -/
def StepO (P : Program) (base : Nat) (m : PM) (H : GH) (w : World) (s : Sem Value) (outs : List (Value × GH)) : Prop :=
  ∃ x ∈ outs, StepV P base m H w s x.1 x.2
theorem StepO.one {s : Sem Value} {v : Value} {H' : GH} (h : StepV P base m H w s v H') : StepO P base m H w s [(v, H')] := ⟨_, List.mem_singleton.2 rfl, h⟩
theorem StepV.of_run {s : Sem Value} {v v' : Value} (hr : s.run P w = .ok v' w) (hv : VR m v v') (hR : Rel P base m H w) : StepV P base m H w s v H := ⟨v', w, m, hr, hv, hR, .refl _ _ _ _⟩

theorem EntRs.any {xs ys : List MapEntry} (h : EntRs m xs ys) (p : Nat → Bool) : (ys.all fun e => p e.born) = (xs.all fun e => p e.born) := by
  induction h with
  | nil => rfl
  | cons hx t ih => rw [List.all_cons, List.all_cons, hx.2.2.1, ih]
theorem EntRs.isEmpty {xs ys : List MapEntry} (h : EntRs m xs ys) : ys.isEmpty = xs.isEmpty := by cases h <;> rfl
theorem EntRs.find {xs ys : List MapEntry} (h : EntRs m xs ys) (p : Nat → Bool) : (xs.find? (fun e => p e.born) = none ∧ ys.find? (fun e => p e.born) = none) ∨ ∃ x y, xs.find? (fun e => p e.born) = some x ∧ ys.find? (fun e => p e.born) = some y ∧ EntR m x y := by
  induction h with
  | nil => exact .inl ⟨rfl, rfl⟩
  | cons hx t ih =>
    rename_i x y xs ys
    rw [List.find?_cons, List.find?_cons, hx.2.2.1]
    cases p x.born with
    | true => exact .inr ⟨x, y, rfl, rfl, hx⟩
    | false => exact ih

theorem Rel.turnIter (hR : Rel P base m H w) {r : Nat} {p : Pin} {o o' : GObj} {ob ob' : Obj} (hp : m r = some p) (hg : H.get r = some o) (hal : alive (some o) = true) (hb : base ≤ p.blk)
    (hh : w.heap[p.blk]? = some ob) (hcl : ∀ cs t fr, ob ≠ .cells cs t fr) (hl : ∀ q, ob ≠ .loop q) (hd : ∀ ds, ob ≠ .deferred ds) (hO : ObjR P m base p o' ob') :
    (setObj p.blk ob').run P w = .ok () { w with heap := w.heap.setIfInBounds p.blk ob' } ∧
      Rel P base m (H.set r o') { w with heap := w.heap.setIfInBounds p.blk ob' } ∧
      Go1 base m m H (H.set r o') w { w with heap := w.heap.setIfInBounds p.blk ob' } := by
  refine ⟨by cases ob <;> first | (exact absurd rfl (hcl _ _ _)) | simp [setObj, Sem.run, hh], hR.turn hp (by rw [hg]; exact hal) hb rfl rfl rfl rfl hO (fun q hq => ?_) (fun ds hq => ?_) (hR.alone hp (by rw [hg]; exact hal) hb)⟩
  · rw [hh] at hq
    injection hq with hq
    exact absurd hq (hl q)
  · rw [hh] at hq
    injection hq with hq
    exact absurd hq (hd ds)

theorem run_getObj {r : Nat} {o : Obj} (h : w.heap[r]? = some o) (hf : ∀ cs t fr, o ≠ .cells cs t fr) : (getObj r).run P w = .ok o w := by
  cases o <;> first | (exact absurd rfl (hf _ _ _)) | simp [getObj, Sem.run, h]

theorem gNext_step {it it' : Value} {s : Bool} {ty : TypeId} {outs : List (Value × GH)} (h : gNext it s H = some outs) (hv : VR m it it') (hR : Rel P base m H w) :
    StepO P base m H w (Instr.next it' s ty) outs := by
  unfold gNext at h
  split at h
  case h_2 => cases h
  next r =>
  obtain ⟨b, p, o, e1, hp, rfl⟩ := hv.ptr_inv
  injection e1 with e1 e2
  subst e1; subst e2
  obtain ⟨o, ob, ho, hob, hr⟩ := hR.obj r p hp
  split at h
  · next s0 pos hg =>
    rw [ho] at hg
    injection hg with hg
    subst hg
    cases hr with
    | strIter h0 hb =>
      have hget := run_getObj (P := P) hob (by intro _ _ _ h; cases h)
      split at h
      · next hlt =>
        injection h with h
        subst h
        obtain ⟨h1, h2, h3⟩ := hR.turnIter (o' := .strIter s0 (pos + (Utf8.decode s0 pos).2)) (ob' := .stringIter s0 (pos + (Utf8.decode s0 pos).2)) hp ho rfl hb hob (by intro _ _ _ h; cases h) (by intro q h; cases h) (by intro q h; cases h) (.strIter h0 hb)
        refine StepO.one ⟨_, _, m, ?_, .tupA (.cons (.bool true) (.cons (.int .i64 pos) (.cons (.int .i32 _) .nil))), h2, h3⟩
        simp [Instr.next, h0, hget, hlt, h1, goInt]
      · next hlt =>
        injection h with h
        subst h
        refine StepO.one (StepV.of_run ?_ (.tupA (.cons (.bool false) .nil)) hR)
        simp [Instr.next, h0, hget, hlt]
  · next since seen last hg =>
    rw [ho] at hg
    injection hg with hg
    subst hg
    injection h with h
    subst h
    cases hr with
    | mapIter h0 hb hs hm =>
      rename_i mo' seen'
      cases mo' with
      | some _ => cases hm
      | none =>
        have hget := run_getObj (P := P) hob (by intro _ _ _ h; cases h)
        exact StepO.one (StepV.of_run (by simp [Instr.next, h0, hget]) (.tupA (.cons (.bool false) .nil)) hR)
  · next mb since seen last hg =>
    rw [ho] at hg
    injection hg with hg
    subst hg
    split at h
    case h_2 => cases h
    next es clock hgm =>
    split at h
    · cases h
    next hlost =>
    cases hr with
    | mapIter h0 hb hs hm =>
      rename_i mo' seen'
      cases mo' with
      | none => cases hm
      | some B =>
        obtain ⟨q, hq, rfl⟩ := hm
        subst hs
        obtain ⟨_, es', _, _, hp2, _, hbq, hhq, hE⟩ := gMap_inv (v := .map (some mb)) (v' := .map (some q.blk)) (r := mb) (es := es) (clock := clock) (by simp [gMap, hgm]) (.map hq) hR
        rw [hq] at hp2
        injection hp2 with hp2
        subst hp2
        have hget := run_getObj (P := P) hob (by intro _ _ _ h; cases h)
        have hgetm := run_getObj (P := P) hhq (by intro _ _ _ h; cases h)
        injection h with h
        -- what is left, on both sides
        have hlost' : ¬ (!seen'.isEmpty && !es'.isEmpty && es'.all fun e => decide (e.born ≥ last)) = true := by
          intro hc
          apply hlost
          have e1 := hE.any fun n => decide (n ≥ last)
          have e2 := hE.isEmpty
          obtain ⟨l⟩ := es'
          obtain ⟨sl⟩ := seen'
          rw [List.isEmpty_toArray, List.isEmpty_toArray, List.all_toArray] at hc
          rw [← e1, ← e2]
          exact hc
        generalize hleft : es.filter (fun e => !seen'.toList.contains e.born) = left at h
        generalize hleft' : es'.filter (fun e => !seen'.contains e.born) = left'
        have hL : EntRs m left left'.toList := by
          rw [← hleft, ← hleft', Array.toList_filter]
          have := hE.filter fun n => !seen'.toList.contains n
          simpa using this
        have hO : EntRs m (left.filter fun e => decide (e.born < since)) (left'.filter fun e => decide (e.born < since)).toList := by
          rw [Array.toList_filter]; exact hL.filter fun n => decide (n < since)
        have hN : EntRs m (left.filter fun e => decide (e.born ≥ since)) (left'.filter fun e => decide (e.born ≥ since)).toList := by
          rw [Array.toList_filter]; exact hL.filter fun n => decide (n ≥ since)
        generalize left.filter (fun e => decide (e.born < since)) = old at h hO
        generalize left.filter (fun e => decide (e.born ≥ since)) = new at h hN
        generalize hold' : left'.filter (fun e => decide (e.born < since)) = old' at hO
        generalize hnew' : left'.filter (fun e => decide (e.born ≥ since)) = new' at hN
        have hem : old'.isEmpty = old.isEmpty := by
          have := hO.isEmpty
          obtain ⟨l⟩ := old'
          simpa using this
        generalize hcand : (if old'.isEmpty then #[none] else #[]) ++ (old' ++ new').map some = cand
        have hpos : 0 < cand.size := by
          rw [← hcand]
          cases hemp : old'.isEmpty with
          | true => simp; omega
          | false =>
            have : old'.size ≠ 0 := by intro h0; rw [Array.isEmpty_iff_size_eq_zero.2 h0] at hemp; cases hemp
            simp; omega
        obtain ⟨i, w1, hi, hch, g1, g2, g3, g4⟩ := choose_run (P := P) cand.size hpos w
        have hR1 := hR.drew g1
        have hG1 : Go1 base m m H H w w1 := Go1.drew g1 g2 g3 g4
        have hAll := hO.append hN
        rw [show old'.toList ++ new'.toList = (old' ++ new').toList by simp] at hAll
        cases hc : cand[i]'hi with
        | none =>
          have hem' : old.isEmpty = true := by
            cases hemp : old.isEmpty with
            | true => rfl
            | false =>
              exfalso
              rw [hemp] at hem
              have : none ∈ cand := hc ▸ Array.getElem_mem hi
              rw [← hcand, hem] at this
              simp at this
          refine ⟨(.tuple #[.bool false], H), ?_, ?_⟩
          · rw [← h, hem']; simp
          · refine ⟨_, w1, m, ?_, .tupA (.cons (.bool false) .nil), hR1, hG1⟩
            have hci : cand[i]? = some none := by rw [Array.getElem?_eq_getElem hi, hc]
            simp only [Instr.next, Sem.run_bind, Sem.run_pure, h0, hget, Result.andThen, hgetm, hlost', if_false, Bool.false_eq_true, hleft', hold', hnew', hcand, hch, hci]
        | some e' =>
          have hmem : some e' ∈ cand := hc ▸ Array.getElem_mem hi
          have hmem' : e' ∈ (old' ++ new').toList := by
            rw [← hcand] at hmem
            rw [Array.mem_append] at hmem
            rcases hmem with hm | hm
            · split at hm
              · simp at hm
              · simp at hm
            · simpa using hm
          obtain ⟨k, hk, hke⟩ := List.getElem_of_mem hmem'
          have hke' : (old' ++ new').toList[k]? = some e' := by rw [List.getElem?_eq_getElem hk, hke]
          have hk2 : k < (old ++ new).length := by rw [hAll.length]; exact hk
          have hee := hAll.get k _ _ (List.getElem?_eq_getElem hk2) hke'
          have hob1 : w1.heap[p.blk]? = some (.mapIter (some q.blk) since seen' last) := by rw [g1]; exact hob
          generalize hx : (old ++ new)[k] = x at hee
          have hci : cand[i]? = some (some e') := by rw [Array.getElem?_eq_getElem hi, hc]
          obtain ⟨h1, h2, h3⟩ := hR1.turnIter (o' := .mapIter (some mb) since (seen'.toList ++ [x.born]) clock) (ob' := .mapIter (some q.blk) since (seen'.push e'.born) clock) hp ho rfl hb hob1
            (by intro _ _ _ h; cases h) (by intro q h; cases h) (by intro q h; cases h) (.mapIter h0 hb (by rw [Array.toList_push, hee.2.2.1]) ⟨q, hq, rfl⟩)
          refine ⟨(.tuple #[.bool true, x.key, x.val], H.set r (.mapIter (some mb) since (seen'.toList ++ [x.born]) clock)), ?_, ?_⟩
          · rw [← h]
            refine List.mem_append_right _ (List.mem_map.2 ⟨x, ?_, rfl⟩)
            rw [← hx]
            exact List.getElem_mem hk2
          · refine ⟨_, _, m, ?_, .tupA (.cons (.bool true) (.cons (closed_VR hee.2.1) (.cons hee.2.2.2 .nil))), h2, hG1.trans h3⟩
            simp only [Instr.next, Sem.run_bind, Sem.run_pure, h0, hget, Result.andThen, hgetm, hlost', if_false, Bool.false_eq_true, hleft', hold', hnew', hcand, hch, hci, h1, hee.1]
  · cases h

theorem gEntry_VR {it it' v : Value} (h : gEntry it H = some v) (hv : VR m it it') (hR : Rel P base m H w) : ∃ v', (Instr.entry it').run P w = .ok v' w ∧ VR m v v' := by
  unfold gEntry at h
  split at h
  case h_2 => cases h
  next r =>
  obtain ⟨b, p, o, e1, hp, rfl⟩ := hv.ptr_inv
  injection e1 with e1 e2
  subst e1; subst e2
  obtain ⟨o, ob, ho, hob, hr⟩ := hR.obj r p hp
  split at h
  case h_2 => cases h
  next mb since seen stepped hg =>
  rw [ho] at hg
  injection hg with hg
  subst hg
  split at h
  case h_2 => cases h
  next stamp es clock hst hgm =>
  split at h
  · cases h
  next hck =>
  cases hr with
  | mapIter h0 hb hs hm =>
    rename_i mo' seen'
    cases mo' with
    | none => cases hm
    | some B =>
      obtain ⟨q, hq, rfl⟩ := hm
      subst hs
      obtain ⟨_, es', _, _, hp2, _, hbq, hhq, hE⟩ := gMap_inv (v := .map (some mb)) (v' := .map (some q.blk)) (r := mb) (es := es) (clock := clock) (by simp [gMap, hgm]) (.map hq) hR
      rw [hq] at hp2
      injection hp2 with hp2
      subst hp2
      have hget := run_getObj (P := P) hob (by intro _ _ _ h; cases h)
      have hgetm := run_getObj (P := P) hhq (by intro _ _ _ h; cases h)
      have hbk : seen'.back? = some stamp := by
        obtain ⟨l⟩ := seen'
        simpa using hst
      split at h
      · next e hf =>
        injection h with h
        subst h
        rcases hE.find (fun n => n == stamp) with ⟨h1, _⟩ | ⟨x, y, h1, h2, h3⟩
        · rw [h1] at hf; cases hf
        · rw [h1] at hf
          injection hf with hf
          subst hf
          refine ⟨.tuple #[y.key, y.val], ?_, .tupA (.cons (by rw [h3.1]; exact closed_VR h3.2.1) (.cons h3.2.2.2 .nil))⟩
          have h2' : es'.find? (fun e => e.born == stamp) = some y := by
            obtain ⟨l⟩ := es'
            simpa using h2
          have hck' : (clock != stepped) = false := by simpa using hck
          simp only [Instr.entry, Sem.run_bind, Sem.run_pure, h0, hget, Result.andThen, hbk, hgetm, hck', if_false, Bool.false_eq_true, h2']
      · cases h
end
end Go.Gh
