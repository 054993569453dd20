/- The law on stacks, whole. -/
import Derived.Test.YthicilkmjamefaaStH
namespace Go.Proofs.Ythicilkmjamefaa
open Go.Gh
set_option linter.unusedVariables false
set_option linter.unusedSimpArgs false

section
variable {k b : Nat} {vF vB x4 : Value} {front back : List (List Idn)} {H : GH}
theorem flat_le (l : List (List Idn)) (h : ∀ x ∈ l, x.length ≤ 6) : l.flatten.length ≤ l.length * 6 := by
  induction l with
  | nil => simp
  | cons a l ih =>
    have h1 := h a (by simp)
    have h2 := ih fun x hx => h x (by simp [hx])
    simp only [List.flatten_cons, List.length_append, List.length_cons]
    omega
theorem r14_ok (hk : 3000 ≤ k) (h : Law b vF vB front back H) (hs : SlR tyId H x4 (front ++ back).flatten) (hl : (front ++ back).flatten.length ≤ 1000) :
    Ev (f3_r14 (C (k + 10)) (k + 10) (.pointer (some ⟨b, 0, none⟩)) x4 (.int .i64 (if (front ++ back).any (fun l => decide (4 < l.length)) then 9 else 0)) H) Yes := by
  have h29 := r29_ok (k := k) (by omega) h rfl hs hl
  have hp := PtC.of h.box
  obtain ⟨q0, e0, p0⟩ := hp.field fd24_0 (by simp)
  obtain ⟨q1, e1, p1⟩ := hp.field fd24_1 (by simp)
  have l0 := PtC.load1 (c := vF) p0 ld22
  have l1 := PtC.load1 (c := vB) p1 ld22
  -- an error of size
  have h9 : chk front back = 9 → Ev (f3_l17 (C (k + 10)) (k + 10) (k + 10) (.pointer (some ⟨b, 0, none⟩)) x4 (.int .i64 9) (.int .i64 (0 : Nat)) H) Yes := fun hc => by
    rw [hc] at h29
    exact l17_nz hs (by omega) h29 (by omega) _ (by omega)
  unfold f3_r14
  simp only [e0, onV_s, l0, h.F.oLen u22, bin_gtr]
  unfold f3_g14_5
  simp only [asB_b, onBool_d]
  by_cases c1 : 40 < front.length
  · rw [if_pos (by omega)]
    exact h9 (by unfold chk; rw [if_pos (.inl c1)])
  rw [if_neg (by omega)]
  simp only [e1, onV_s, l1, h.B.oLen u22, bin_gtr, asB_b, onBool_d]
  unfold f3_r16
  by_cases c2 : 40 < back.length
  · rw [if_pos (by omega)]
    exact h9 (by unfold chk; rw [if_pos (.inr c2)])
  rw [if_neg (by omega)]
  by_cases c3 : (front ++ back).any (fun l => decide (4 < l.length)) = true
  · rw [if_pos c3]
    exact h9 (by unfold chk; rw [if_neg (by omega), if_pos c3])
  · rw [if_neg c3]
    refine l17_ok hs hl (by omega) ?_ (k + 10) 0 (by omega) (by omega) (by simp)
    have e : chk front back = (if (front ++ back).flatten.any (fun x => !named x) then 1 else if ¬ (front ++ back).flatten.Nodup then 8 else 0) := by
      unfold chk; rw [if_neg (by omega), if_neg c3]
    rw [e] at h29
    exact h29

theorem l7_ok {x3 : Value} {Hb : GH} (hk : 3000 ≤ k) (h : Law b vF vB front back Hb) (h3 : SlR (tySl tyId) Hb x3 (front ++ back)) : ∀ (r i : Nat) (H : GH) (x4 : Value), i ≤ (front ++ back).length → (front ++ back).length - i < r → Ext Hb H →
    Own tyId 29 Hb H x4 ((front ++ back).take i).flatten → ((front ++ back).take i).flatten.length ≤ 66 →
    Ev (f3_l7 (C (k + 10)) (k + 10) r (.pointer (some ⟨b, 0, none⟩)) x3 x4 (.int .i64 (if ((front ++ back).take i).any (fun l => decide (4 < l.length)) then 9 else 0)) (.int .i64 i) H) Yes := by
  intro r
  induction r with
  | zero => intro i H x4 _ h; omega
  | succ r ih =>
    intro i H x4 hi hr hE hown hlen
    show Ev (f3_l7b (C (k + 10)) (k + 10) (f3_l7 (C (k + 10)) (k + 10) r) (.pointer (some ⟨b, 0, none⟩)) x3 x4 _ (.int .i64 i) H) Yes
    unfold f3_l7b
    have h3' := h3.mono hE
    have hsn := hown.slr hE
    have hlF := h.lF
    have hlB := h.lB
    have hll : (front ++ back).length ≤ 90 := by rw [List.length_append]; omega
    simp only [h3'.oLen u22, onV_s, bin_lss, asB_b, onBool_d]
    by_cases hlt : i < (front ++ back).length
    · rw [if_pos (by omega)]
      unfold f3_r9
      obtain ⟨q, cs, g1, g2, g3⟩ := h3'.at u22 gs26 (k := .i64) hlt
      obtain ⟨w, rfl, hw⟩ := tySl_rep g3
      have g4 := g2.load1 (P := Try.prog) (t := 26) ld26
      simp only [g1, onV_s, g4, hw.oLen u26, bin_gtr]
      unfold f3_g9_7
      simp only [asB_b, onBool_d]
      by_cases c1 : 6 < (front ++ back)[i].length
      · rw [if_pos (by omega)]; exact lives_end
      rw [if_neg (by omega)]
      simp only [hsn.oLen u26, onV_s, bin_gtr, asB_b, onBool_d]
      by_cases c2 : 60 < ((front ++ back).take i).flatten.length
      · rw [if_pos (by omega)]; exact lives_end
      rw [if_neg (by omega)]
      simp only [g1, onV_s, g4, hw.oLen u26, bin_gtr, asB_b, onBool_d]
      have htk : (front ++ back).take (i + 1) = (front ++ back).take i ++ [(front ++ back)[i]] := by rw [List.take_succ_eq_append_getElem hlt]
      have hfl : ((front ++ back).take (i + 1)).flatten = ((front ++ back).take i).flatten ++ (front ++ back)[i] := by rw [htk]; simp only [List.flatten_append, List.flatten_cons, List.flatten_nil, List.append_nil]
      -- what is appended
      have happ : ∀ w', w' = (if ((front ++ back).take (i + 1)).any (fun l => decide (4 < l.length)) then (9 : Int) else 0) → Ev (f3_r13 (C (k + 10)) (k + 10) (f3_l7 (C (k + 10)) (k + 10) r) (.pointer (some ⟨b, 0, none⟩)) x3 x4 (.int .i64 w') (.int .i64 i) H) Yes := by
        intro w' hw'
        unfold f3_r13
        simp only [g1, onV_s, g4]
        obtain ⟨new, hf, hc⟩ := hw.first
        obtain ⟨v', H', ha, hE', hown', hn', _, _⟩ := Own.append hE hown u26 u26 el29 hw.val hf (hc.flat flatId) (by omega)
        simp only [ha, onVH_s, bin_add, onV_s]
        rw [Go.IntWalk.i64_in _ (by omega), show ((i : Int) + 1) = ((i + 1 : Nat) : Int) by omega, hw']
        refine ih (i + 1) H' v' (by omega) (by omega) hE' (by rw [hfl]; exact hown') ?_
        rw [hfl, List.length_append]; omega
      by_cases c3 : 4 < (front ++ back)[i].length
      · rw [if_pos (by omega)]
        refine happ 9 ?_
        rw [htk, List.any_append, List.any_cons, decide_eq_true c3]
        simp
      · rw [if_neg (by omega)]
        refine happ _ ?_
        rw [htk, List.any_append, List.any_cons, decide_eq_false c3]
        simp
    · rw [if_neg (by omega)]
      have e : (front ++ back).take i = front ++ back := List.take_of_length_le (by omega)
      rw [e] at hown hlen hsn ⊢
      exact r14_ok hk (h.mono hE) hsn (by omega)

/-- An append to an empty slice that has just been made. -/
theorem app_empty {α : Type} {A : Ty α} {st xt e e' e0 : TypeId} {b : Nat} {y : Value} {ys : List α} {new : List Value} {H H0 : GH} (hst : Try.prog.underlying st = some (.slice e)) (hxt : Try.prog.underlying xt = some (.slice e')) (he : elemOk Try.prog e A.sz = true)
    (hg : H.get b = some (.row [] e0 false)) (hy : ∃ a c, y = .slice a ys.length c) (hf : gFirst A.sz ys.length y H = some new) (hc : CellsR A H0 new ys) (hn : ys.length ≤ 1000000000) :
    gAppend Try.prog st xt (.slice (some ⟨b, 0, none⟩) 0 0) y H = if ys.length = 0 then some (.slice (some ⟨b, 0, none⟩) 0 0, H) else some (.slice (some ⟨H.n, 0, none⟩) ys.length (loose + A.sz), H.push (.row new e false)) := by
  obtain ⟨i, z, hi, hz, hsz, hb0, hb1, hzc, hpos⟩ := elemOk_spec he
  obtain ⟨ya, yc, rfl⟩ := hy
  have hnl : new.length = ys.length * A.sz := hc.length
  have hap : gAppended Try.prog xt i z (.slice ya ys.length yc) H = some (ys.length, new) := by
    unfold gAppended
    simp only [hxt, hsz, hf]
    rfl
  have hroom : (roomy (0 + ys.length) i.bytes && new.all oneC && new.length == ys.length * i.size && z.cells.size == i.size && decide (0 < i.size) && decide (0 < i.bytes)) = true := by
    rw [roomy_of (by omega) hb1, hc.all, hsz]
    simp [hnl, hzc, hpos, hb0]
  have hfirst : gFirst A.sz 0 (.slice (some ⟨b, 0, none⟩) 0 0) H = some [] := by
    unfold gFirst
    simp [hg]
  unfold gAppend
  simp only [hst, hi, hz, hap, hroom, if_true]
  by_cases h0 : ys.length = 0
  · rw [if_pos h0, if_pos h0]
  · rw [if_neg h0, if_neg h0, if_pos (by unfold loose; omega), if_neg (by omega)]
    simp only [hsz, Nat.zero_mul, hfirst, List.length_nil, if_true, Nat.zero_add, List.nil_append]
/-- 'append(append([][]T{}, front...), back...)', the first append in any order with the look at back. -/
theorem two_app {H : GH} (hF : SlR (tySl tyId) H vF front) (hB : SlR (tySl tyId) H vB back) (hlF : front.length ≤ 45) (hlB : back.length ≤ 45) :
    ∃ v5 H6, gAppendQ Try.prog 22 22 (.slice (some ⟨H.n, 0, none⟩) 0 0) vF (H.push (.row [] 26 false)) = some (v5, H6) ∧ Ext H H6 ∧ ∃ v9 H10, gAppend Try.prog 22 22 v5 vB H6 = some (v9, H10) ∧ Ext H H10 ∧ SlR (tySl tyId) H10 v9 (front ++ back) := by
  have hE := Ext.push H (.row [] 26 false)
  have hEl : Ext H { H.push (.row [] 26 false) with lo := (H.push (.row [] 26 false)).n } := hE.setLo _ (by show min H.lo H.n ≤ H.n + 1; omega)
  obtain ⟨newF, hfF, hcF⟩ := (hF.mono hEl).first
  have hcF' : CellsR (tySl tyId) H newF front := by
    obtain ⟨n2, h1, h2⟩ := hF.first
    have hfF' : gFirst (tySl tyId).sz front.length vF (H.push (.row [] 26 false)) = some newF := hfF
    have : newF = n2 := by
      have := h1
      unfold gFirst at this hfF'
      rcases hF with ⟨rfl, rfl⟩ | ⟨b0, o, c, row, e', ro, cs, rfl, g2, _⟩
      · simp only at this hfF'
        rw [this] at hfF'
        injection hfF' with hfF'
        exact hfF'.symm
      · simp only [g2, hE.get_of g2] at this hfF'
        rw [this] at hfF'
        injection hfF' with hfF'
        exact hfF'.symm
    rw [this]; exact h2
  have ha := app_empty (A := tySl tyId) (H0 := H) (ys := front) (b := H.n) (e0 := 26) u22 u22 el26 (show GH.get { H.push (.row [] 26 false) with lo := (H.push (.row [] 26 false)).n } H.n = _ from GH.get_push_new) hF.val hfF hcF' (by omega)
  by_cases h0 : front.length = 0
  · have hf0 : front = [] := List.length_eq_zero_iff.1 h0
    subst hf0
    rw [if_pos h0] at ha
    have hq : gAppendQ Try.prog 22 22 (.slice (some ⟨H.n, 0, none⟩) 0 0) vF (H.push (.row [] 26 false)) = some (.slice (some ⟨H.n, 0, none⟩) 0 0, H.push (.row [] 26 false)) := by
      unfold gAppendQ
      rw [ha]
      simp only [if_true]
    refine ⟨_, _, hq, hE, ?_⟩
    obtain ⟨newB, hfB, hcB⟩ := (hB.mono hE).first
    have hb := app_empty (A := tySl tyId) (ys := back) (b := H.n) (e0 := 26) u22 u22 el26 (GH.get_push_new (H := H) (o := .row [] 26 false)) hB.val hfB hcB (by omega)
    by_cases h1 : back.length = 0
    · have hb0 : back = [] := List.length_eq_zero_iff.1 h1
      subst hb0
      rw [if_pos h1] at hb
      exact ⟨_, _, hb, hE, .inr ⟨H.n, 0, 0, [], 26, false, [], rfl, GH.get_push_new, by simp, rfl, .nil⟩⟩
    · rw [if_neg h1] at hb
      refine ⟨_, _, hb, hE.push' _, .inr ⟨_, 0, _, newB, 26, false, newB, rfl, GH.get_push_new, by omega, by simp, ?_⟩⟩
      exact hcB.mono (.push _ _)
  · rw [if_neg h0] at ha
    have hq : gAppendQ Try.prog 22 22 (.slice (some ⟨H.n, 0, none⟩) 0 0) vF (H.push (.row [] 26 false)) = some (.slice (some ⟨(H.push (.row [] 26 false)).n, 0, none⟩) front.length (loose + (tySl tyId).sz), (H.push (.row [] 26 false)).push (.row newF 26 false)) := by
      unfold gAppendQ
      rw [ha]
      simp only [GH.push_lo, if_true]
      rfl
    have hE6 : Ext H ((H.push (.row [] 26 false)).push (.row newF 26 false)) := hE.push' _
    refine ⟨_, _, hq, hE6, ?_⟩
    have hown : Own (tySl tyId) 26 H ((H.push (.row [] 26 false)).push (.row newF 26 false)) (.slice (some ⟨(H.push (.row [] 26 false)).n, 0, none⟩) front.length (loose + (tySl tyId).sz)) front :=
      .inr ⟨_, newF, rfl, by show H.n ≤ H.n + 1; omega, GH.get_push_new, hcF'⟩
    obtain ⟨newB, hfB, hcB⟩ := hB.first
    have hfB' : gFirst (tySl tyId).sz back.length vB ((H.push (.row [] 26 false)).push (.row newF 26 false)) = some newB := by
      unfold gFirst at hfB ⊢
      rcases hB with ⟨rfl, rfl⟩ | ⟨b0, o, c, row, e', ro, cs, rfl, g2, _⟩
      · exact hfB
      · simp only [g2, hE6.get_of g2] at hfB ⊢
        exact hfB
    obtain ⟨v', H', h1, h2, h3, _⟩ := Own.append hE6 hown u22 u22 el26 hB.val hfB' hcB (by omega)
    exact ⟨v', H', h1, h2, h3.slr h2⟩

theorem build22 {H : GH} : gBuildSlice Try.prog 22 0 [] H = some (.slice (some ⟨H.n, 0, none⟩) 0 0, H.push (.row [] 26 false)) := by kernel_rfl
/-- The law: whatever the beds, it answers yes. -/
theorem law_ok (hF : SlR (tySl tyId) H vF front) (hB : SlR (tySl tyId) H vB back) (hk : 3000 ≤ k) : Ev (C (k + 11) (.func (.func 3) #[] #[]) [.agg #[vF, vB]] H) Yes := by
  rw [C_func T3, f3_eq]
  unfold f3_sh
  have hcell : (Value.cells (.agg #[vF, vB])).toList = [vF, vB] := rfl
  rw [hcell]
  have hE := Ext.push H (.row [vF, vB] 24 false)
  have hg : (H.push (.row [vF, vB] 24 false)).get H.n = some (.row [vF, vB] 24 false) := GH.get_push_new
  have hF' := hF.mono hE
  have hB' := hB.mono hE
  revert hg hF' hB'
  generalize H.push (.row [vF, vB] 24 false) = H1
  intro hg hF' hB'
  have hp := PtC.of hg
  have hp0 : PtC H1 (.pointer (some ⟨H.n, 0, none⟩)) [vF] := ⟨H.n, 0, _, _, _, rfl, hg, by simp, rfl⟩
  obtain ⟨q0, e0, p0⟩ := hp.field fd24_0 (by simp)
  obtain ⟨q1, e1, p1⟩ := hp.field fd24_1 (by simp)
  have l1 := PtC.load1 (c := vB) p1 ld22
  simp only [hp0.load1 ld22, onV_s, hF'.oLen u22, bin_gtr]
  unfold f3_g1_5
  simp only [asB_b, onBool_d]
  by_cases c1 : 45 < front.length
  · rw [if_pos (by omega)]; exact lives_end
  rw [if_neg (by omega)]
  simp only [e1, onV_s, l1, hB'.oLen u22, bin_gtr, asB_b, onBool_d]
  by_cases c2 : 45 < back.length
  · rw [if_pos (by omega)]; exact lives_end
  rw [if_neg (by omega)]
  unfold f3_r3
  have hE2 := Ext.push H1 (.row [] 26 false)
  have m0 := PtC.load1 (P := Try.prog) (t := 22) (c := vF) (p0.mono hE2) ld22
  obtain ⟨v5, H6, g1, hE6, v9, H10, g2, hE10, hs⟩ := two_app hF' hB' (by omega) (by omega)
  have m1 := PtC.load1 (P := Try.prog) (t := 22) (c := vB) (p1.mono hE6) ld22
  simp only [build22, onVH_s, e0, onV_s, m0, g1, e1, m1, g2]
  have hlaw : Law H.n vF vB front back H1 := ⟨hg, hF', hB', by omega, by omega⟩
  exact l7_ok hk (hlaw.mono hE10) hs (k + 10) 0 H10 _ (by omega) (by rw [List.length_append]; omega) (.refl _) .nil (by simp)
end
end Go.Proofs.Ythicilkmjamefaa
