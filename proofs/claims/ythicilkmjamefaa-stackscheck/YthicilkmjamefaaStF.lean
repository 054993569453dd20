/- The stacks' functions, on: Check, Set, Join, Count. -/
import Derived.Test.YthicilkmjamefaaStE
namespace Go.Proofs.Ythicilkmjamefaa
open Go.Gh
set_option linter.unusedVariables false
set_option linter.unusedSimpArgs false

theorem check_ok {k : Nat} {vF vB : Value} {front back : List (List Idn)} {H : GH} (hk : 1000 ≤ k) (hF : SlR (tySl tyId) H vF front) (hB : SlR (tySl tyId) H vB back) (hlF : front.length ≤ 1000000) (hlB : back.length ≤ 1000000) :
    Ev (C (k + 4) (.func (.func 9) #[] #[]) [.agg #[vF, vB]] H) fun r => Ext H r.2 ∧ r.1 = .int .i64 (chk front back) := by
  rw [C_func T9, f9_eq]
  unfold f9_sh
  have hcell : (Value.cells (.agg #[vF, vB])).toList = [vF, vB] := rfl
  rw [hcell]
  have hbe : ((H.push (.row [vF, vB] 24 false)).push (.row [.int .i64 0] 27 false)).get H.n = some (.row [vF, vB] 24 false) := (Ext.push _ _).get_of GH.get_push_new
  have hbo : ((H.push (.row [vF, vB] 24 false)).push (.row [.int .i64 0] 27 false)).get (H.n + 1) = some (.row [.int .i64 0] 27 false) := GH.get_push_new
  have hE1 := Ext.push H (.row [vF, vB] 24 false)
  have hn1 : (H.push (.row [vF, vB] 24 false)).n = H.n + 1 := rfl
  have hE2 := Ext.push (H.push (.row [vF, vB] 24 false)) (.row [.int .i64 0] 27 false)
  have hbe1 : (H.push (.row [vF, vB] 24 false)).get H.n = some (.row [vF, vB] 24 false) := GH.get_push_new
  revert hbe hbo hE2 hE1 hn1 hbe1
  generalize H.push (.row [vF, vB] 24 false) = H1
  intro hbe hbo hE1 hn1 hE2 hbe1
  generalize hH2 : H1.push (.row [.int .i64 0] 27 false) = H2
  rw [hH2] at hbe hbo hE2
  have hn2 : H2.n = H1.n + 1 := by rw [← hH2]; rfl
  clear hH2
  have hbo' : H2.get H1.n = some (.row [.int .i64 0] 27 false) := by rw [hn1]; exact hbo
  have hp := PtC.of hbe
  have hp0 : PtC H2 (.pointer (some ⟨H.n, 0, none⟩)) [vF] := ⟨H.n, 0, _, _, _, rfl, hbe, by simp, rfl⟩
  obtain ⟨q1, e1, p1⟩ := hp.field fd24_1 (by simp)
  have l1 := PtC.load1 (c := vB) p1 ld22
  have hF2 := hF.mono (hE1.trans hE2)
  have hB2 := hB.mono (hE1.trans hE2)
  simp only [hp0.load1 ld22, onV_s, hF2.oLen u22, bin_gtr]
  unfold f9_g1_5
  simp only [asB_b, onBool_d]
  -- too many needles
  have hbad : (40 < front.length ∨ 40 < back.length) → Ev (onH (gStore Try.prog 27 (.pointer (some ⟨H1.n, 0, none⟩)) (.int .i64 9) H2) fun H5 => onV (gResL Try.prog H5 [(.pointer (some ⟨H1.n, 0, none⟩), some 27)]) fun v => some [(v, H5)])
      fun r => Ext H r.2 ∧ r.1 = .int .i64 (chk front back) := by
    intro h
    rw [storeI 9 hbo']
    simp only [onH_s]
    rw [resCell (GH.get_set_same hbo')]
    exact Ev.mk ⟨hE1.trans (hE2.set (Nat.le_refl _) (GH.get_lt hbo') _), by unfold chk; rw [if_pos h]⟩
  by_cases c1 : 40 < front.length
  · rw [if_pos (by omega)]
    exact hbad (.inl c1)
  rw [if_neg (by omega)]
  simp only [e1, onV_s, l1, hB2.oLen u22, bin_gtr, asB_b, onBool_d]
  by_cases c2 : 40 < back.length
  · rw [if_pos (by omega)]
    exact hbad (.inr c2)
  rw [if_neg (by omega)]
  simp only [hp.loadA ld24, onV_s]
  refine Ev.call0 (all44 (k + 2) vF vB H2) fun v7 H8 ⟨hv7, hH8⟩ => ?_
  simp only at hv7 hH8
  subst hv7
  have hE8 : Ext H2 H8 := by rw [hH8]; exact .push _ _
  have hn8 : H8.n = H2.n + 1 := by rw [hH8]; rfl
  have hb8 : H8.get H2.n = some (.row [vF, vB] 24 false) := by rw [hH8]; exact GH.get_push_new
  clear hH8
  rw [onFunc_s]
  have ht : front.take 40 ++ back.take 40 = front ++ back := by rw [List.take_of_length_le (by omega), List.take_of_length_le (by omega)]
  refine Ev.bind (all_ok (k := k + 2) (front := front) (back := back) (b := H2.n) (e := 24) (ro := false) (chk_step (k := k + 1) (H := H1) (L := H8.n) (vF := vF) (vB := vB) (front := front) (back := back) (items := front.take 40 ++ back.take 40) (by omega) (y0 := .agg #[vF, vB]) (y1 := .pointer (some ⟨H.n, 0, none⟩)) (y3 := undef) (y4 := undef) (y5 := undef) (y6 := .pointer (some ⟨H.n, 0, none⟩)) (y7 := vF) (y8 := .int .i64 front.length) (y9 := .bool (decide ((40 : Int) < front.length))) (y10 := .bool false) (y11 := q1) (y12 := vB) (y13 := .int .i64 back.length) (y14 := .bool (decide ((40 : Int) < back.length))) (y15 := .bool (decide ((40 : Int) < back.length))) (y16 := .agg #[vF, vB]) (y17 := .func (.func 117) #[] #[.pointer (some ⟨H2.n, 0, none⟩)]) (y18 := undef) (y19 := undef) (y20 := undef) (y21 := undef) (y22 := undef) (y23 := undef) (y24 := undef) (y25 := undef) (y26 := undef) (y27 := undef) (y28 := undef) (y29 := undef) (y30 := undef)) (by omega) ?_ (hF2.mono (hE8.push' _)) (hB2.mono (hE8.push' _)) (by omega) (by omega) ?_ ?_ ?_ ?_) ?_
  · exact (Ext.push _ _).get_of hb8
  · refine ⟨(hE2.trans (hE8.push' _)).push' _, (Ext.push _ _).get_of GH.get_push_new, GH.get_push_new, ((hE8.push' _).push' _).get_of hbo', fun l hl => by cases hl⟩
  · intro D H' hI; exact hI.row
  · intro D H' hI; exact hF.mono (hE1.trans hI.ext)
  · intro D H' hI; exact hB.mono (hE1.trans hI.ext)
  · rintro ⟨r1, r2⟩ ⟨_, hr⟩
    simp only at hr
    simp only
    rw [ht] at hr
    rcases hr with hI | hS
    · rw [onEnd_n (by decide) hI.loop]
      have hLn := GH.get_lt hI.loop
      exact (chk_tail (k := k) (b := H.n) (H := H1) (vF := vF) (vB := vB) (front := front) (back := back) hk (hI.ext.set (by omega) hLn _) hbe1 ((GH.get_set_other (by omega) hLn).trans hI.box) (hF.mono hE1) (hB.mono hE1) (by omega) (by omega) hI.small).mono
        fun x hx => ⟨hE1.trans hx.1, hx.2⟩
    · rw [onEnd_r (by decide) hS.loop]
      have hLn := GH.get_lt hS.loop
      rw [resCell ((GH.get_set_other (by omega) hLn).trans hS.box)]
      refine Ev.mk ⟨hE1.trans (hS.ext.set (by omega) hLn _), ?_⟩
      unfold chk
      rw [if_neg (by omega), if_pos]
      obtain ⟨l, hl, hl4⟩ := hS.big
      exact List.any_eq_true.2 ⟨l, hl, by simpa using hl4⟩

theorem u31e (a b : Value) (i : Nat) : oExtract (.tuple #[a, b]) 0 = some a ∧ oExtract (.tuple #[a, b]) 1 = some b := ⟨rfl, rfl⟩
/-- Count: the number of all names. -/
theorem count_ok {k : Nat} {vF vB : Value} {front back : List (List Idn)} {H : GH} (hk : 100 ≤ k) (hF : SlR (tySl tyId) H vF front) (hB : SlR (tySl tyId) H vB back) (hlF : front.length ≤ 40) (hlB : back.length ≤ 40)
    (hlen : (front ++ back).flatten.length ≤ 1000000000) : Ev (C (k + 3) (.func (.func 12) #[] #[]) [.agg #[vF, vB]] H) fun r => Ext H r.2 ∧ r.1 = .int .i64 ((front ++ back).flatten.length : Nat) := by
  rw [C_func T12, f12_eq]
  unfold f12_sh
  have hcell : (Value.cells (.agg #[vF, vB])).toList = [vF, vB] := rfl
  rw [hcell]
  have hp := PtC.new H [vF, vB] 24 false
  have hE := Ext.push H (.row [vF, vB] 24 false)
  have ht : front.take 40 ++ back.take 40 = front ++ back := by rw [List.take_of_length_le hlF, List.take_of_length_le hlB]
  simp only [hp.loadA ld24, onV_s]
  refine Ev.call0 (names_ok hk (hF.mono hE) (hB.mono hE) (by omega) (by omega) (by rw [ht]; exact hlen)) fun v H' ⟨h1, h2⟩ => ?_
  simp only [ht] at h1 h2
  simp only [h2.oLen u26, onV_s]
  exact Ev.mk ⟨hE.trans h1, rfl⟩
end Go.Proofs.Ythicilkmjamefaa
