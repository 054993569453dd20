/- The program's deletions from a stock's lists. -/
import Derived.Test.YthicilkmjamefaaSoG
namespace Go.Proofs.Ythicilkmjamefaa
open Go.Gh
set_option linter.unusedVariables false
set_option linter.unusedSimpArgs false

theorem wrP {n : Nat} (h : 0 < n) (hn : n ≤ 1000000) : ((n - 1 : Nat) : Int) = (n : Int) - 1 := by omega
theorem delCo_ok {k : Nat} {v : Value} {xs : List ConeD} {H0 H : GH} {i : Nat} (h : Ow tyCo 93 H0 H v xs) (hE : Ext H0 H) (hi : i < xs.length) (hn : xs.length ≤ 1000000) :
    Ev (C (k + 1) (.func (.func 162) #[] #[]) [v, .int .i64 i, .int .i64 (i + 1 : Nat)] H) fun r => Ext H0 r.2 ∧ Kp 93 H r.2 ∧ Ow tyCo 93 H0 r.2 r.1 (xs.take i ++ xs.drop (i + 1)) := by
  rw [C_func T162, f162_eq]
  unfold f162_sh
  obtain ⟨v2, v5, v6, v7, H8, v8, H9, a1, a2, a3, a4, a5, a6, a7, a8, a9⟩ := h.del (P := Try.prog) (t := 85) (i := i) flat_co u85 el93 hi hn hE zCo (k := .i64)
  simp only [h.slr.oLen u85, onV_s, a1, bin_eql, asB_b, onBool_d]
  rw [if_neg (by omega)]
  simp only [h.slr.oLen u85, onV_s, a2, a3, a4, onVH_s]
  unfold f162_r6
  have hl := a8.slr.oLen u85
  have hle : (xs.take i ++ xs.drop (i + 1)).length = xs.length - 1 := by rw [List.length_append, List.length_take, List.length_drop]; omega
  rw [hle] at hl
  simp only [hl, onV_s, a5, a6, onH_s]
  exact Ev.mk ⟨a7, a9, a8⟩
theorem delHo_ok {k : Nat} {v : Value} {xs : List HoldD} {H0 H : GH} {i : Nat} (h : Ow tyHo 91 H0 H v xs) (hE : Ext H0 H) (hi : i < xs.length) (hn : xs.length ≤ 1000000) :
    Ev (C (k + 1) (.func (.func 109) #[] #[]) [v, .int .i64 i, .int .i64 (i + 1 : Nat)] H) fun r => Ext H0 r.2 ∧ Kp 91 H r.2 ∧ Ow tyHo 91 H0 r.2 r.1 (xs.take i ++ xs.drop (i + 1)) := by
  rw [C_func T109, f109_eq]
  unfold f109_sh
  obtain ⟨v2, v5, v6, v7, H8, v8, H9, a1, a2, a3, a4, a5, a6, a7, a8, a9⟩ := h.del (P := Try.prog) (t := 86) (i := i) flat_ho u86 el91 hi hn hE zHo (k := .i64)
  simp only [h.slr.oLen u86, onV_s, a1, bin_eql, asB_b, onBool_d]
  rw [if_neg (by omega)]
  simp only [h.slr.oLen u86, onV_s, a2, a3, a4, onVH_s]
  unfold f109_r6
  have hl := a8.slr.oLen u86
  have hle : (xs.take i ++ xs.drop (i + 1)).length = xs.length - 1 := by rw [List.length_append, List.length_take, List.length_drop]; omega
  rw [hle] at hl
  simp only [hl, onV_s, a5, a6, onH_s]
  exact Ev.mk ⟨a7, a9, a8⟩
end Go.Proofs.Ythicilkmjamefaa
/- The program's take: what is used comes from the shortest cones. -/
namespace Go.Proofs.Ythicilkmjamefaa
open Go.Gh
set_option linter.unusedVariables false
set_option linter.unusedSimpArgs false

theorem minI (a b : Int) : (oMinMax Try.prog false [.int .i64 a, .int .i64 b]).filter closed = some (.int .i64 (if b < a then b else a)) := by kernel_rfl
theorem nilP {a : Addr} : oNilCheck (.pointer (some a)) = some (.pointer (some a)) := rfl
theorem frC_app (xs ys : List ConeD) (x : Int) : frC (xs ++ ys) x = frC xs x + frC ys x := by unfold frC; rw [List.map_append, List.sum_append]
theorem frC_cons (c : ConeD) (ys : List ConeD) (x : Int) : frC (c :: ys) x = (if c.art = x then c.len else 0) + frC ys x := by unfold frC; rw [List.map_cons, List.sum_cons]
theorem frC_split (cs : List ConeD) {m : Nat} (h : m < cs.length) (x : Int) : frC cs x = frC (cs.take m) x + ((if cs[m].art = x then cs[m].len else 0) + frC (cs.drop (m + 1)) x) := by
  conv => lhs; rw [← List.take_append_drop m cs]
  rw [frC_app, List.drop_eq_getElem_cons h, frC_cons]
section
variable {call : Handle} {k : Nat} {a : Int} {vC vH x2 x7 : Value} {cs : List ConeD} {H1 H : GH} {bx : Nat} {Q : Value × GH → Prop} {sg : Sg4}
theorem tk_l5 (hg : H1.get bx = some (.row [vC, vH] 88 false)) (hs : SlR tyCo H1 vC cs) (hl : cs.length ≤ 1000) (hex : ∃ c ∈ cs, c.art = a)
    (hQ : ∀ (m : Nat) (hm : m < cs.length) H', cs[m].art = a → Ext H1 H' → All (f108_r10 call k sg (.pointer (some ⟨bx, 0, none⟩)) (.int .i64 a) x2 x7 (.int .i64 m) H') Q) :
    ∀ (r i : Nat) (b : Int) (H : GH), i ≤ cs.length → cs.length - i < r → Ext H1 H → ((b = -1 ∧ ∀ j (hj : j < cs.length), j < i → cs[j].art ≠ a) ∨ ∃ m : Nat, b = m ∧ ∃ hm : m < cs.length, cs[m].art = a) →
      All (f108_l5 call k sg r (.pointer (some ⟨bx, 0, none⟩)) (.int .i64 a) x2 x7 (.int .i64 b) vC (.int .i64 cs.length) (.int .i64 i) H) Q := by
  intro r
  induction r with
  | zero => intro i b H _ h; omega
  | succ r ih =>
    intro i b H hi hr hE hb
    show All (f108_l5b call k sg (f108_l5 call k sg r) (.pointer (some ⟨bx, 0, none⟩)) (.int .i64 a) x2 x7 (.int .i64 b) vC (.int .i64 cs.length) (.int .i64 i) H) Q
    unfold f108_l5b
    simp only [bin_lss, onV_s, asB_b, onBool_d]
    by_cases hlt : i < cs.length
    · have r1 : i + 1 ≤ cs.length := hlt
      have r2 : cs.length - (i + 1) < r := by clear hb hex; omega
      have r3 : i ≤ 1000000000 := by clear hb hex; omega
      rw [if_pos (by clear hb hex; omega)]
      obtain ⟨q, e1, e2⟩ := co_at (hs.mono hE) (k := .i64) hlt
      obtain ⟨H2, f1, f2, f3, f4⟩ := box (P := Try.prog) (t := 93) (H := H) (v := coV cs[i]) (cs := coC cs[i]) (row := [(.int .i64 0), (.int .i64 0)]) (e := 93) (gSize_ld ld93) rfl rfl rfl
      simp only [e1, co_ld e2, onV_s, f1, onH_s]
      have hE2 := hE.trans f2
      obtain ⟨q0, q1, a0, b0, a1, b1⟩ := co_f (PtC.of f3)
      unfold f108_r7
      simp only [a0, b0, onV_s, bin_eql]
      unfold f108_g7_5
      simp only [asB_b, onBool_d]
      by_cases ha : cs[i].art = a
      · rw [if_pos ha]
        have hnew : All (f108_r8 call k sg (f108_l5 call k sg r) (.pointer (some ⟨bx, 0, none⟩)) (.int .i64 a) x2 x7 (.int .i64 i) vC (.int .i64 cs.length) (.int .i64 i) H2) Q := by
          unfold f108_r8
          simp only [bin_add, onV_s]
          rw [wrS r3]
          exact ih (i + 1) i H2 r1 r2 hE2 (.inr ⟨i, rfl, hlt, ha⟩)
        simp only [bin_lss, onV_s]
        unfold f108_g7_8
        simp only [asB_b, onBool_d]
        rcases hb with ⟨rfl, hb⟩ | ⟨m, rfl, hm, hma⟩
        · rw [if_pos (by omega)]
          exact hnew
        · rw [if_neg (by omega)]
          have l0 : gLoad Try.prog 85 (.pointer (some ⟨bx, 0, none⟩)) H2 = some vC := PtC.load1 (P := Try.prog) (t := 85) ⟨bx, 0, _, _, _, rfl, hE2.get_of hg, by simp, rfl⟩ ld85
          obtain ⟨q', e3, e4⟩ := co_at (hs.mono hE2) (k := .i64) hm
          obtain ⟨t0, t1, c0, d0, c1, d1⟩ := co_f e4
          simp only [a1, b1, onV_s, nilP, fa88, l0, e3, c1, d1, bin_lss, asB_b, onBool_d]
          split
          · exact hnew
          · unfold f108_r9
            simp only [bin_add, onV_s]
            rw [wrS r3]
            exact ih (i + 1) m H2 r1 r2 hE2 (.inr ⟨m, rfl, hm, hma⟩)
      · rw [if_neg ha]
        unfold f108_r9
        simp only [bin_add, onV_s]
        rw [wrS r3]
        refine ih (i + 1) b H2 r1 r2 hE2 (hb.imp (fun hb => ⟨hb.1, fun j hj hji => ?_⟩) id)
        rcases Nat.lt_or_ge j i with h' | h'
        · exact hb.2 j hj h'
        · have : j = i := by omega
          subst this
          exact ha
    · rw [if_neg (by clear hb hex; omega)]
      rcases hb with ⟨rfl, hb⟩ | ⟨m, rfl, hm, hma⟩
      · obtain ⟨c, hc, hca⟩ := hex
        obtain ⟨j, hj, rfl⟩ := List.getElem_of_mem hc
        exact absurd hca (hb j hj (by omega))
      · exact hQ m hm H hma hE
end
end Go.Proofs.Ythicilkmjamefaa
