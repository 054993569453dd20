/- The ghost machine: append, copy and clear go on together with the model's. -/
import Derived.Test.YthicilkmjamefaaGdMemB
namespace Go.Gh
open Go.RowKit
set_option linter.unusedVariables false
set_option linter.unusedSimpArgs false
section
variable {P : Program} {base : Nat} {m : PM} {H : GH} {w : World}

/-- What is appended, on the model's side. -/
theorem gAppended_run {xt : TypeId} {i : TypeInfo} {z x x' : Value} {n : Nat} {new : List Value} (h : gAppended P xt i z x H = some (n, new)) (hcl : closed z = true) (hx : VR m x x') (hR : Rel P base m H w) :
    ∃ new', VRs m new new' ∧ ((∃ k0 k l, P.underlying xt = some (.int k0) ∧ x' = .int k l ∧ 0 ≤ l ∧ l ≤ 1099511627776 ∧ n = l.toNat ∧ new' = repeated z.cells.toList n) ∨
      (((∃ e', P.underlying xt = some (.slice e')) ∨ P.underlying xt = some .string) ∧ (Builtin.lenOf x').run P w = .ok n w ∧ ∀ w' : World, w'.heap = w.heap → (Builtin.firstCells i.size n x').run P w' = .ok new'.toArray w')) := by
  unfold gAppended at h
  split at h
  · next k0 k l hu =>
    split at h
    · next hok =>
      simp only [Option.some.injEq, Prod.mk.injEq] at h
      obtain ⟨rfl, rfl⟩ := h
      have e := hx.int_inv
      subst e
      exact ⟨_, repeated_VRs (closed_cells hcl) _, .inl ⟨k0, k, l, hu, rfl, hok.1, hok.2, rfl, rfl⟩⟩
    · cases h
  · next e' a l c hu =>
    obtain ⟨new0, hf, hh⟩ := Option.map_eq_some_iff.1 h
    simp only [Prod.mk.injEq] at hh
    obtain ⟨rfl, rfl⟩ := hh
    obtain ⟨vs', hr, hv⟩ := gFirst_run (P := P) hf hx hR (fun l' c' a' he => by injection he with _ e _; omega)
    exact ⟨vs', hv, .inr ⟨.inl ⟨e', hu⟩, gLen_run rfl hx, hr⟩⟩
  · next s hu =>
    obtain ⟨new0, hf, hh⟩ := Option.map_eq_some_iff.1 h
    simp only [Prod.mk.injEq] at hh
    obtain ⟨rfl, rfl⟩ := hh
    cases hx
    obtain ⟨vs', hr, hv⟩ := gFirst_run (P := P) hf (.string (m := m) s) hR (fun l' c' a' he => by cases he)
    exact ⟨vs', hv, .inr ⟨.inr hu, gLen_run rfl (.string (m := m) s), hr⟩⟩
  · cases h

theorem oneC_all {vs vs' : List Value} (hv : VRs m vs vs') (h : vs.all oneC = true) : vs'.all oneC = true := by
  rw [List.all_eq_true] at h ⊢
  intro x hx
  obtain ⟨i, hi, rfl⟩ := List.getElem_of_mem hx
  have hi' : i < vs.length := by rw [hv.1]; exact hi
  rw [(hv.2 i hi' hi).oneC_eq]
  exact h _ (List.getElem_mem hi')

theorem VRs.rest {cs : List Value} {arr : Array Value} (h : VRs m cs arr.toList) (ext : Array Value) : ∀ (i : Nat) (u : Value), cs[i]? = some u → ∃ u', (arr ++ ext)[i]? = some u' ∧ VR m u u' := fun i u hu => by
  obtain ⟨v, hv, hr⟩ := h.arr? i u hu
  exact ⟨v, by rw [Array.getElem?_append_left (Array.getElem?_eq_some_iff.1 hv).1]; exact hv, hr⟩

theorem gAppend_step {st xt ty : TypeId} {s s' x x' v : Value} {H' : GH} (h : gAppend P st xt s x H = some (v, H')) (hs : VR m s s') (hx : VR m x x') (hR : Rel P base m H w) (hb : base ≤ w.heap.size) :
    StepV P base m H w (Builtin.append_ #[st, xt] ty #[s', x']) v H' := by
  unfold gAppend at h
  split at h
  case h_2 => cases h
  next e a sLen sCap hu =>
  split at h
  case h_2 => cases h
  next i z hi hz =>
  obtain ⟨i', hi', _, hcl⟩ := gZero_some hz
  split at h
  · cases h
  next n new hap =>
  obtain ⟨new', hnew, hrx⟩ := gAppended_run (w := w) hap hcl hx hR
  split at h
  case isFalse => cases h
  next hok =>
  simp only [roomy, Bool.and_eq_true, decide_eq_true_eq, beq_iff_eq] at hok
  obtain ⟨⟨⟨⟨⟨⟨hroom, hroom2⟩, hone⟩, hnl⟩, hzs⟩, hpos⟩, hbp⟩ := hok
  have hone' := oneC_all hnew hone
  have hnl' : new'.length = n * i.size := by rw [← hnew.1]; exact hnl
  split at h
  · -- onto nil
    have es := hs.sliceNil_inv
    split at h
    case isFalse => cases h
    next h0 =>
    obtain ⟨rfl, rfl⟩ := h0
    obtain ⟨r1, r2⟩ := run_append (st := st) (xt := xt) (ty := ty) hu hi hz hrx hzs hpos es hroom hroom2
    split at h
    · next hn0 =>
      subst hn0
      simp only [Option.some.injEq, Prod.mk.injEq] at h
      obtain ⟨rfl, rfl⟩ := h
      exact ⟨_, w, m, r1 (by omega) w rfl, .sliceNil 0 0, hR, .refl _ _ _ _⟩
    · next hn0 =>
      simp only [Option.some.injEq, Prod.mk.injEq] at h
      obtain ⟨rfl, rfl⟩ := h
      obtain ⟨c, w1, hc, hh, ho, ht, hou, hr⟩ := r2 (by omega) #[] (fun w' _ => by rw [es]; simp [Builtin.firstCells])
      have hR1 := hR.drew hh
      have hG1 : Go1 base m m H H w w1 := Go1.drew hh ho ht hou
      obtain ⟨m', hm, _, h1, h2⟩ := hR1.newRow (by rw [hh]; exact hb) e i.size (info_size hi) new (#[] ++ new'.toArray ++ Builtin.zeroCells z.cells (c - (0 + n))) (VRs.rest (by simpa using hnew) _)
      refine ⟨_, _, m', hr, ?_, h1, hG1.trans h2⟩
      rw [hh] at hm
      have hz2 : (Builtin.zeroCells z.cells (c - (0 + n))).size = (c - (0 + n)) * i.size := by rw [size_zeroCells, hzs]
      have := VR.sliceL (m := m') (b := H.n) 0 0 n (loose + i.size) c hm rfl (by omega) (fun _ => rfl) (fun _ => by
        simp only [Array.size_append, hz2, List.size_toArray, hnl', Array.size_empty]
        have : c * i.size = n * i.size + (c - (0 + n)) * i.size := by rw [← Nat.add_mul]; congr 1; omega
        omega)
      simpa using this
  · next b o =>
    rcases hs.slice_inv with ⟨z1, z2, bb, oo, A', e1, rfl⟩ | ⟨b', p, o1, o', c', e1, hp, rfl, hnc, hoo, hcase⟩
    · subst z1; subst z2
      obtain ⟨r1, r2⟩ := run_append (st := st) (xt := xt) (ty := ty) hu hi hz hrx hzs hpos rfl hroom hroom2
      split at h
      · next hn0 =>
        subst hn0
        simp only [Option.some.injEq, Prod.mk.injEq] at h
        obtain ⟨rfl, rfl⟩ := h
        have hn0 : new' = [] := List.eq_nil_of_length_eq_zero (by omega)
        subst hn0
        exact ⟨_, w, m, r1 (by omega) w (by simp [storeCells]), by simpa using hs, hR, .refl _ _ _ _⟩
      next hn0 =>
      rw [if_pos (by unfold loose; omega), if_neg (by omega)] at h
      split at h
      case h_2 => cases h
      next old hold =>
      split at h
      case isFalse => cases h
      next hol =>
      simp only [Option.some.injEq, Prod.mk.injEq] at h
      obtain ⟨rfl, rfl⟩ := h
      obtain ⟨old', hor, hov⟩ := gFirst_run (P := P) hold hs hR (fun l c a he => by injection he with _ e _; omega)
      obtain ⟨c, w1, hc, hh, ho, ht, hou, hr⟩ := r2 (by omega) old'.toArray hor
      have hR1 := hR.drew hh
      have hG1 : Go1 base m m H H w w1 := Go1.drew hh ho ht hou
      obtain ⟨m', hm, _, h1, h2⟩ := hR1.newRow (by rw [hh]; exact hb) e i.size (info_size hi) (old ++ new) (old'.toArray ++ new'.toArray ++ Builtin.zeroCells z.cells (c - (0 + n))) (VRs.rest (by simpa using hov.append hnew) _)
      refine ⟨_, _, m', hr, ?_, h1, hG1.trans h2⟩
      rw [hh] at hm
      have hz2 : (Builtin.zeroCells z.cells (c - (0 + n))).size = (c - (0 + n)) * i.size := by rw [size_zeroCells, hzs]
      have hol' : old'.length = 0 * i.size := by rw [← hov.1]; exact hol
      exact VR.sliceL (m := m') (b := H.n) 0 0 _ _ c hm rfl hc (fun _ => rfl) (fun _ => by
        simp only [Array.size_append, hz2, List.size_toArray, hnl', hol']
        have : c * i.size = 0 * i.size + n * i.size + (c - (0 + n)) * i.size := by rw [← Nat.add_mul, ← Nat.add_mul]; congr 1; omega
        omega)
    injection e1 with e1 e2
    subst e1; subst e2
    obtain ⟨r1, r2⟩ := run_append (st := st) (xt := xt) (ty := ty) hu hi hz hrx hzs hpos rfl hroom hroom2
    split at h
    · next hn0 =>
      subst hn0
      simp only [Option.some.injEq, Prod.mk.injEq] at h
      obtain ⟨rfl, rfl⟩ := h
      have hn0 : new' = [] := List.eq_nil_of_length_eq_zero (by omega)
      subst hn0
      exact ⟨_, w, m, r1 (by omega) w (by simp [storeCells]), by simpa using hs, hR, .refl _ _ _ _⟩
    next hn0 =>
    split at h
    · next hlt =>
      have hex : c' = sCap ∧ (0 < sCap → o' = p.off + o) := by
        rcases hcase with ⟨_, h1, h2⟩ | ⟨h1, _⟩
        · exact ⟨h1, h2⟩
        · omega
      obtain ⟨rfl, ho'⟩ := hex
      split at h
      · next hfit =>
        -- within the capacity
        obtain ⟨H1, hst, hh⟩ := Option.map_eq_some_iff.1 h
        simp only [Prod.mk.injEq] at hh
        obtain ⟨rfl, rfl⟩ := hh
        obtain ⟨w', hrun, g1, g2⟩ := gStoreCells_VR hst hp hnew hR
        have e := ho' (by omega)
        subst e
        refine ⟨_, w', m, r1 hfit w' ?_, .slice _ _ _ _ hp hlt (by omega) (fun _ => rfl), g1, g2⟩
        simp only [add_none, ← Nat.add_assoc] at hrun ⊢
        exact hrun
      · next hfit =>
        split at h
        case h_2 => cases h
        next old hold =>
        split at h
        case isFalse => cases h
        next hol =>
        simp only [Option.some.injEq, Prod.mk.injEq] at h
        obtain ⟨rfl, rfl⟩ := h
        obtain ⟨old', hor, hov⟩ := gFirst_run (P := P) hold hs hR (fun l c a he => by injection he with _ e _; omega)
        obtain ⟨c, w1, hc, hh, ho, ht, hou, hr⟩ := r2 (by omega) old'.toArray hor
        have hR1 := hR.drew hh
        have hG1 : Go1 base m m H H w w1 := Go1.drew hh ho ht hou
        obtain ⟨m', hm, _, h1, h2⟩ := hR1.newRow (by rw [hh]; exact hb) e i.size (info_size hi) (old ++ new) (old'.toArray ++ new'.toArray ++ Builtin.zeroCells z.cells (c - (sLen + n))) (VRs.rest (by simpa using hov.append hnew) _)
        refine ⟨_, _, m', hr, ?_, h1, hG1.trans h2⟩
        rw [hh] at hm
        have hz2 : (Builtin.zeroCells z.cells (c - (sLen + n))).size = (c - (sLen + n)) * i.size := by rw [size_zeroCells, hzs]
        have hol' : old'.length = sLen * i.size := by rw [← hov.1]; exact hol
        exact VR.sliceL (m := m') (b := H.n) 0 0 _ _ c hm rfl hc (fun _ => rfl) (fun _ => by
          simp only [Array.size_append, hz2, List.size_toArray, hnl', hol']
          have : c * i.size = sLen * i.size + n * i.size + (c - (sLen + n)) * i.size := by rw [← Nat.add_mul, ← Nat.add_mul]; congr 1; omega
          omega)
    · next hlt =>
      split at h
      case isFalse => cases h
      next hcap =>
      split at h
      case h_2 => cases h
      next cs e' old hg hold =>
      split at h
      case isFalse => cases h
      next hee =>
      obtain ⟨rfl, hol⟩ := hee
      simp only [Option.some.injEq, Prod.mk.injEq] at h
      obtain ⟨rfl, rfl⟩ := h
      have hlo : sCap = loose + p.sz ∧ (p.rw = true → o' + c' * p.sz ≤ p.tot) := by
        rcases hcase with ⟨h1, _⟩ | h1
        · exact absurd h1 hlt
        · exact h1
      obtain ⟨hcp, hw⟩ := hlo
      have hsz : p.sz = i.size := by omega
      obtain ⟨arr, t, fr, hh, hrw, _, hww, hc⟩ := hR.row hp hg
      obtain ⟨rfl, rfl, htot, hsz', hbk⟩ := hww rfl
      have hrw' : p.rw = true := by rw [hrw]; rfl
      have hw := hw hrw'
      obtain ⟨old', hor, hov⟩ := gFirst_run (P := P) hold hs hR (fun l c a he => by injection he with _ e _; omega)
      have hol' : old'.length = sLen * i.size := by rw [← hov.1]; exact hol
      -- the old ghost block is given up
      have hdead := hR.turn (o := .dead) (w' := w) (r := .cells arr t (0, 0)) hp (by rw [hg]; rfl) hbk (by
        apply Array.ext_getElem?
        intro k
        rw [Array.getElem?_setIfInBounds]
        by_cases e : p.blk = k
        · subst e
          rw [if_pos rfl, hh, if_pos (Array.getElem?_eq_some_iff.1 hh).1]
        · rw [if_neg e]) rfl rfl rfl .dead (fun q hq => by rw [hh] at hq; cases hq) (fun ds hd => by rw [hh] at hd; cases hd) (hR.alone hp (by rw [hg]; rfl) hbk)
      obtain ⟨hRd, hGd⟩ := hdead
      rcases Nat.lt_or_ge c' (sLen + n) with hgrow | hfit
      · obtain ⟨c, w1, hc1, hh1, ho, ht, hou, hr⟩ := r2 hgrow old'.toArray hor
        have hR1 := hRd.drew hh1
        have hG1 : Go1 base m m (H.set b .dead) (H.set b .dead) w w1 := Go1.drew hh1 ho ht hou
        obtain ⟨m', hm, _, h1, h2⟩ := hR1.newRow (by rw [hh1]; exact hb) t i.size (info_size hi) (old ++ new) (old'.toArray ++ new'.toArray ++ Builtin.zeroCells z.cells (c - (sLen + n))) (VRs.rest (by simpa using hov.append hnew) _)
        refine ⟨_, _, m', hr, ?_, h1, (hGd.trans hG1).trans h2⟩
        rw [hh1] at hm
        have hz2 : (Builtin.zeroCells z.cells (c - (sLen + n))).size = (c - (sLen + n)) * i.size := by rw [size_zeroCells, hzs]
        exact VR.sliceL (m := m') (b := H.n) 0 0 _ _ c hm rfl hc1 (fun _ => rfl) (fun _ => by
          simp only [Array.size_append, hz2, List.size_toArray, hnl', hol']
          have : c * i.size = sLen * i.size + n * i.size + (c - (sLen + n)) * i.size := by rw [← Nat.add_mul, ← Nat.add_mul]; congr 1; omega
          omega)
      · -- in place
        have hspan : o' + (sLen + n) * i.size ≤ arr.size := by
          have : (sLen + n) * i.size ≤ c' * i.size := Nat.mul_le_mul_right _ hfit
          rw [hsz] at hw
          omega
        have hmul : (sLen + n) * i.size = sLen * i.size + n * i.size := Nat.add_mul ..
        have hone2 : ∀ v ∈ new', v.oneCell' = true := fun v hv => oneC_one (List.all_eq_true.1 hone' v hv)
        have hrun := run_storeCells_at (P := P) p.blk (o' + sLen * i.size) t new' 0 arr w hh (by rw [hnl']; omega) hone2
        have hrw2 := r1 hfit _ (by simp only [add_none]; exact hrun)
        -- what lies there now
        let arr' : Array Value := (arr.toList.take (o' + sLen * i.size + 0) ++ new' ++ arr.toList.drop (o' + sLen * i.size + 0 + new'.length)).toArray
        have hset := setRow_eq w p.blk arr arr' t (0, 0) hh
        have hal := hR.alone hp (by rw [hg]; rfl) hbk
        obtain ⟨hR2, hG2⟩ := hR.turn (o := .dead) (w' := w.setRow p.blk arr') (r := .cells arr' t (0, 0)) hp (by rw [hg]; rfl) hbk hset rfl rfl rfl .dead (fun q hq => by rw [hh] at hq; cases hq) (fun ds hd => by rw [hh] at hd; cases hd) hal
        let q : Pin := ⟨p.blk, o', p.tot, p.sz, true⟩
        have hle := hR2.put_le q
        have hold' : old = (cs.drop o).take (sLen * i.size) := by
          simp only [gFirst, hg] at hold
          split at hold
          · injection hold with hold; exact hold.symm
          · cases hold
        have hsz2 : arr'.size = p.tot := by
          simp only [arr', List.size_toArray, List.length_append, List.length_take, List.length_drop, Array.length_toList, hnl']
          omega
        have hlt2 : (arr.toList.take (o' + sLen * i.size + 0)).length = o' + sLen * i.size := by simp; omega
        have hrow : ∀ (k : Nat) (u : Value), (old ++ new)[k]? = some u → ∃ u', arr'[o' + k]? = some u' ∧ VR m u u' := by
          intro k u hk
          simp only [arr']
          rw [List.getElem?_toArray, List.append_assoc]
          rcases Nat.lt_or_ge k old.length with hlt' | hge
          · rw [List.getElem?_append_left hlt', hold'] at hk
            rw [List.getElem?_append_left (by rw [hlt2]; omega), List.getElem?_take_of_lt (by omega), Array.getElem?_toList]
            rw [List.getElem?_take_of_lt (by omega), List.getElem?_drop] at hk
            obtain ⟨u', h1, h2⟩ := hc (o + k) u hk
            have hs0 : 0 < sLen := by
              rcases Nat.eq_zero_or_pos sLen with h0 | h0
              · subst h0; omega
              · exact h0
            have e := hoo hs0
            exact ⟨u', by rw [← h1]; congr 1; omega, h2⟩
          · rw [List.getElem?_append_right hge] at hk
            rw [List.getElem?_append_right (by rw [hlt2]; omega), hlt2]
            have e1 : o' + k - (o' + sLen * i.size) = k - old.length := by omega
            rw [e1]
            have hkl : k - old.length < new.length := (List.getElem?_eq_some_iff.1 hk).1
            rw [List.getElem?_append_left (by rw [hnl']; omega)]
            exact hnew.get? hk
        obtain ⟨hR3, hG3⟩ := hR2.adopt (.row (old ++ new) t false) (.cells arr' t (0, 0)) q (setRow_heap w p.blk arr arr' t (0, 0) hh)
          (.row rfl (fun h => by cases h) (fun _ => ⟨rfl, rfl, hsz2, hsz', hbk⟩) fun k u hk => by
            obtain ⟨u', h1, h2⟩ := hrow k u hk
            exact ⟨u', h1, h2.mono hle⟩)
          (fun c s hcs hblk => by
            by_cases e : c = b
            · subst e
              rw [GH.get_set_same hg]; rfl
            · rw [GH.get_set_other (Ne.symm e) (hR.id_lt hp), hal c s hcs hblk e]; rfl)
          ⟨b, p, hp, rfl, by rw [GH.set_lo]; omega⟩
        refine ⟨_, _, _, hrw2, ?_, hR3, hG2.trans hG3⟩
        have hmq : (m.put (H.set b .dead).n q) H.n = some q := PM.put_same _ _ _
        exact VR.sliceL (b := H.n) (p := q) 0 o' _ _ c' hmq (by show loose + i.size = loose + p.sz; omega) hfit (fun _ => by show o' = o' + 0; omega) (fun _ => hw)
  · cases h

theorem gCopy_step {dt ty s0 : TypeId} {d d' s s' v : Value} {H' : GH} (h : gCopy P dt d s H = some (v, H')) (hd : VR m d d') (hs : VR m s s') (hR : Rel P base m H w) (tys : Array TypeId) (htys : tys[0]? = some dt) :
    StepV P base m H w (Builtin.copy_ tys ty #[d', s']) v H' := by
  unfold gCopy at h
  split at h
  case h_2 => cases h
  next e a dLen dCap sn hu hl =>
  have hlen := gLen_run (P := P) (w := w) hl hs
  simp only at h
  split at h
  · cases h
  next size hsz =>
  split at h
  · cases h
  next new hf =>
  obtain ⟨new', hnr, hnv⟩ := gFirst_run (P := P) hf hs hR (fun l c a he => by
    subst he
    simp only [gLen, Option.some.injEq] at hl
    subst hl
    exact Nat.min_le_left _ _)
  have hrun0 := hnr w rfl
  split at h
  · have e1 := hd.sliceNil_inv
    subst e1
    simp only [Option.some.injEq, Prod.mk.injEq] at h
    obtain ⟨rfl, rfl⟩ := h
    refine ⟨_, w, m, ?_, .int _ _, hR, .refl _ _ _ _⟩
    simp [Builtin.copy_, htys, run_underlying hu, hlen, run_sizeOf' hsz, hrun0, goInt]
  · next b o =>
    rcases hd.slice_inv with ⟨z1, z2, bb, oo, A', e1, rfl⟩ | ⟨b', p, o1, o', c', e1, hp, rfl, hnc, hoo, hcase⟩
    · subst z1; subst z2
      rw [if_pos (Nat.min_zero _)] at h
      have h0 : Nat.min sn 0 = 0 := Nat.min_zero _
      simp only [Option.some.injEq, Prod.mk.injEq] at h
      obtain ⟨rfl, rfl⟩ := h
      have hnil : new' = [] := by
        refine List.eq_nil_of_length_eq_zero ?_
        rw [← hnv.1]
        unfold gFirst at hf
        rw [h0] at hf
        split at hf
        · injection hf with hf; subst hf; rfl
        · split at hf
          · split at hf
            · injection hf with hf; subst hf; simp
            · cases hf
          · cases hf
        · injection hf with hf; subst hf; simp
        · cases hf
      subst hnil
      refine ⟨_, w, m, ?_, .int _ _, hR, .refl _ _ _ _⟩
      have h0' : min sn 0 = 0 := h0
      have hrun1 : (Builtin.firstCells size 0 s').run P w = .ok #[] w := by have := hrun0; rw [h0] at this; exact this
      simp [Builtin.copy_, htys, run_underlying hu, hlen, run_sizeOf' hsz, h0', hrun1, goInt, storeCells]
    injection e1 with e1 e2
    subst e1; subst e2
    split at h
    · next h0 =>
      simp only [Option.some.injEq, Prod.mk.injEq] at h
      obtain ⟨rfl, rfl⟩ := h
      have hnil : new' = [] := by
        refine List.eq_nil_of_length_eq_zero ?_
        rw [← hnv.1]
        unfold gFirst at hf
        rw [h0] at hf
        split at hf
        · injection hf with hf; subst hf; rfl
        · split at hf
          · split at hf
            · injection hf with hf; subst hf; simp
            · cases hf
          · cases hf
        · injection hf with hf; subst hf; simp
        · cases hf
      subst hnil
      refine ⟨_, w, m, ?_, .int _ _, hR, .refl _ _ _ _⟩
      have h0' : min sn dLen = 0 := h0
      have hrun1 : (Builtin.firstCells size 0 s').run P w = .ok #[] w := by have := hrun0; rw [h0] at this; exact this
      simp [Builtin.copy_, htys, run_underlying hu, hlen, run_sizeOf' hsz, h0', hrun1, goInt, storeCells]
    · next h0 =>
      obtain ⟨H1, hst, hh⟩ := Option.map_eq_some_iff.1 h
      simp only [Prod.mk.injEq] at hh
      obtain ⟨rfl, rfl⟩ := hh
      have hpos : 0 < dLen := by
        rcases Nat.eq_zero_or_pos dLen with hz | hz
        · exact absurd (by rw [hz]; exact Nat.min_zero _) h0
        · exact hz
      have e := hoo hpos
      subst e
      obtain ⟨w', hrun, g1, g2⟩ := gStoreCells_VR hst hp hnv hR
      refine ⟨_, w', m, ?_, .int _ _, g1, g2⟩
      have hrun1 : (Builtin.firstCells size (min sn dLen) s').run P w = .ok new'.toArray w := hrun0
      simp [Builtin.copy_, htys, run_underlying hu, hlen, run_sizeOf' hsz, hrun1, goInt, hrun]
  · cases h

theorem gClear_step {t ty : TypeId} {x x' : Value} {H' : GH} (h : gClear P t x H = some H') (hx : VR m x x') (hR : Rel P base m H w) :
    StepV P base m H w (Builtin.clear_ #[t] ty #[x']) (.tuple #[]) H' := by
  have tup : VR m (.tuple #[]) (.tuple #[]) := VR.undef
  unfold gClear at h
  split at h
  · next hu =>
    injection h with h; subst h
    have e := hx.sliceNil_inv
    subst e
    exact ⟨_, w, m, by simp [Builtin.clear_, run_underlying hu], tup, hR, .refl _ _ _ _⟩
  · next hu =>
    injection h with h; subst h
    refine ⟨_, w, m, ?_, tup, hR, .refl _ _ _ _⟩
    cases hx <;> simp [Builtin.clear_, run_underlying hu]
  · next e b o n c hnz hu =>
    split at h
    case h_2 => cases h
    next i z hi hz =>
    obtain ⟨i', hi', _, hcl⟩ := gZero_some hz
    split at h
    case isFalse => cases h
    next hok =>
    obtain ⟨hzs, hpos⟩ := hok
    obtain ⟨b', p, o1, o', c', e1, hp, rfl, hnc, hoo, hcase⟩ := hx.slice_inv.resolve_left (fun ⟨z1, _⟩ => hnz z1)
    injection e1 with e1 e2
    subst e1; subst e2
    have hn : 0 < n := by
      rcases Nat.eq_zero_or_pos n with h0 | h0
      · exact (hnz h0).elim
      · exact h0
    have e := hoo hn
    subst e
    obtain ⟨w', hrun, g1, g2⟩ := gStoreCells_VR h hp (repeated_VRs (closed_cells hcl) n) hR
    have e1 : (Builtin.zeroCells z.cells n).toList = repeated z.cells.toList n := repeated_eq z.cells n
    refine ⟨_, w', m, ?_, tup, g1, g2⟩
    have hne : n ≠ 0 := by omega
    obtain ⟨n, rfl⟩ : ∃ k, n = k + 1 := ⟨n - 1, by omega⟩
    simp [Builtin.clear_, run_underlying hu, run_zeroValue' hz, e1, hrun]
  · cases h
end
end Go.Gh
