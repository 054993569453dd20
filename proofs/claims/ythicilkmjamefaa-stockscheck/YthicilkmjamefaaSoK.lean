/- The program's take, the outer loop. -/
import Derived.Test.YthicilkmjamefaaSoI
namespace Go.Proofs.Ythicilkmjamefaa
open Go.Gh
set_option linter.unusedVariables false
set_option linter.unusedSimpArgs false

theorem frC_none : ∀ (cs : List ConeD) (a : Int), (∀ c ∈ cs, c.art ≠ a) → frC cs a = 0
  | [], _, _ => rfl
  | c :: r, a, h => by rw [frC_cons, if_neg (h c (by simp)), frC_none r a fun c hc => h c (by simp [hc])]; rfl
theorem set_cut {α : Type} {xs : List α} {m : Nat} {x : α} (h : m < xs.length) : (xs.set m x).take m ++ (xs.set m x).drop (m + 1) = xs.take m ++ xs.drop (m + 1) := by
  have hl : (xs.take m).length = m := by rw [List.length_take]; omega
  rw [List.set_eq_take_append_cons_drop, if_pos h]
  rw [List.take_append_of_le_length (by omega), List.take_of_length_le (by omega), List.drop_append, List.drop_of_length_le (by omega), hl, Nat.add_sub_cancel_left]
  rfl
/-- All but one block, and but the rows of one type, stands as it was. -/
def Kx (bx : Nat) (e : TypeId) (H H' : GH) : Prop := ∀ q row e1 ro, H.get q = some (.row row e1 ro) → e1 ≠ e → bx ≠ q → H'.get q = some (.row row e1 ro)
theorem Kx.of {bx e : Nat} {H H' : GH} (h : Kp e H H') : Kx bx e H H' := fun q row e1 ro hq hn _ => h q row e1 ro hq hn
theorem Kx.trans {bx e : Nat} {H H' H2 : GH} (h : Kx bx e H H') (h2 : Kx bx e H' H2) : Kx bx e H H2 := fun q row e1 ro hq hn hb => h2 q row e1 ro (h q row e1 ro hq hn hb) hn hb
section
variable {k k' : Nat} {a : Int} {vH : Value} {H0 H1 : GH} {bx L : Nat} {Q : Value × GH → Prop}
theorem tk_l2 (hk : 1000 < k') (hL : L ≤ 512) (hb : H0.n ≤ bx)
    (hQ : ∀ cs' vC' kn' H', Ext H0 H' → Kx bx 93 H1 H' → H'.get bx = some (.row [vC', vH] 88 false) → Ow tyCo 93 H0 H' vC' cs' → cs'.length ≤ L → Q (.int .i64 kn', H')) :
    ∀ (r : Nat) (cs : List ConeD) (vC : Value) (n kn : Int) (H : GH), (cs.length + 1 < r ∨ (n = 0 ∧ 0 < r)) → Ext H0 H → Kx bx 93 H1 H → H.get bx = some (.row [vC, vH] 88 false) → Ow tyCo 93 H0 H vC cs → (∀ c ∈ cs, 1 ≤ c.len ∧ c.len ≤ 1000000000) → cs.length ≤ L → 0 ≤ n → n ≤ frC cs a → n ≤ 1000000000 →
      All (f108_l2 (C (k + 1)) k' r (.pointer (some ⟨bx, 0, none⟩)) (.int .i64 a) (.int .i64 n) (.int .i64 kn) H) Q := by
  intro r
  induction r with
  | zero => intro cs vC n kn H h; omega
  | succ r ih =>
    intro cs vC n kn H hr hE hK hg ho hpos hl hn0 hnf hn9
    show All (f108_l2b (C (k + 1)) k' (f108_l2 (C (k + 1)) k' r) (.pointer (some ⟨bx, 0, none⟩)) (.int .i64 a) (.int .i64 n) (.int .i64 kn) H) Q
    unfold f108_l2b
    simp only [bin_gtr, onV_s, asB_b, onBool_d]
    by_cases hn : 0 < n
    · rw [if_pos hn]
      have l0 : ∀ H', H'.get bx = some (.row [vC, vH] 88 false) → gLoad Try.prog 85 (.pointer (some ⟨bx, 0, none⟩)) H' = some vC := fun H' h => PtC.load1 (P := Try.prog) (t := 85) ⟨bx, 0, _, _, _, rfl, h, by simp, rfl⟩ ld85
      simp only [nilP, onV_s, fa88, l0 H hg, ho.slr.oLen u85]
      have hex : ∃ c ∈ cs, c.art = a := Classical.byContradiction fun hno => by
        have := frC_none cs a fun c hc ha => hno ⟨c, hc, ha⟩
        omega
      refine tk_l5 hg ho.slr (by omega) hex (fun m hm H2 hma hE2 => ?_) k' 0 (-1) H (Nat.zero_le _) (by omega) (.refl _) (.inl ⟨rfl, fun j _ h => by omega⟩)
      have hg2 := hE2.get_of hg
      have hE02 := hE.trans hE2
      have ho2 := ho.ext hE2
      obtain ⟨q, e1, e2⟩ := co_at ho2.slr (k := .i64) hm
      obtain ⟨q0, q1, a0, b0, a1, b1⟩ := co_f e2
      have hmem := hpos _ (List.getElem_mem hm)
      unfold f108_r10
      simp only [nilP, onV_s, fa88, l0 H2 hg2, e1, a1, b1, minI, bin_sub, bin_add]
      generalize hx : (if cs[m].len < n then cs[m].len else n) = x
      have hx1 : x ≤ n ∧ x ≤ cs[m].len ∧ 0 < x ∧ (x = n ∨ x = cs[m].len) := by
        rw [← hx]; split <;> omega
      rw [Go.IntWalk.i64_in (n - x) (by omega)]
      unfold f108_r13
      obtain ⟨p, p2, H3, j1, j2, j3, j4, j5, j6⟩ := ho2.putF (P := Try.prog) (t := 85) (i := m) (f := 1) (off := 1) (t1 := 3) (w := .int .i64 (cs[m].len - x)) (x := ⟨cs[m].art, cs[m].len - x⟩) flat_co u85 (gSize_ld ld93) hm fd93_1 (gSize_ld ld3) rfl rfl (by decide) (fun H cs' h => by rw [show cs' = coC cs[m] from h]; rfl) hE02 (k := .i64)
      obtain rfl := Option.some.inj (e1.symm.trans j1)
      obtain rfl := Option.some.inj (a1.symm.trans j2)
      simp only [nilP, onV_s, fa88, l0 H2 hg2, e1, a1, b1, bin_sub]
      rw [Go.IntWalk.i64_in (cs[m].len - x) (by omega)]
      simp only [j3, onH_s]
      have hg3 := j6 _ _ _ _ hg2 (by decide)
      have hK3 : Kx bx 93 H1 H3 := (hK.trans (Kx.of (Kp.of hE2))).trans (Kx.of j6)
      have hsl : m < (cs.set m ⟨cs[m].art, cs[m].len - x⟩).length := by rw [List.length_set]; exact hm
      obtain ⟨q', e3, e4⟩ := co_at j5.slr (k := .i64) hsl
      rw [List.getElem_set_self] at e4
      obtain ⟨t0, t1, c0, d0, c1, d1⟩ := co_f e4
      have hfs := frC_split cs hm a
      rw [if_pos hma] at hfs
      unfold f108_r14
      simp only [nilP, onV_s, fa88, l0 H3 hg3, e3, c1, d1, bin_eql, asB_b, onBool_d]
      by_cases hz : cs[m].len - x = 0
      · rw [if_pos hz]
        unfold f108_r15
        simp only [nilP, onV_s, fa88, l0 H3 hg3, bin_add]
        rw [wrS (by omega)]
        refine All.callE (delCo_ok (k := k) j5 j4 hsl (by rw [List.length_set]; omega)) fun u H4 hu => ?_
        obtain ⟨hE4, hK4, hu⟩ := hu
        have hE04 : Ext H0 H4 := hE4
        have hK34 : Kp 93 H3 H4 := hK4
        rw [set_cut hm] at hu
        have hu4 : Ow tyCo 93 H0 H4 u (cs.take m ++ cs.drop (m + 1)) := hu
        clear hE4 hK4 hu
        obtain ⟨au, cu, rfl⟩ := hu4.slr.val
        have hg4 := hK34 _ _ _ _ hg3 (by decide)
        have hlt := GH.get_lt hg4
        have hs1 := store1 (P := Try.prog) (t := 85) (o := 0) (v := .slice au (cs.take m ++ cs.drop (m + 1)).length cu) hg4 (gSize_ld ld85) rfl rfl (by simp)
        simp only [nilP, onV_s, fa88, hs1, onH_s]
        have kk : ∀ q, bx ≠ q → (H4.set bx (.row ([vC, vH].set 0 (.slice au (cs.take m ++ cs.drop (m + 1)).length cu)) 88 false)).get q = H4.get q := fun q hq => GH.get_set_other hq hlt
        have hlen : (cs.take m ++ cs.drop (m + 1)).length = cs.length - 1 := by rw [List.length_append, List.length_take, List.length_drop]; omega
        refine ih (cs.take m ++ cs.drop (m + 1)) (.slice au (cs.take m ++ cs.drop (m + 1)).length cu) _ _ _ (.inl (by omega)) (hE04.set hb hlt _) (fun q row e1 ro hq hne hbq => (kk q hbq).trans ((hK3.trans (Kx.of hK34)) q row e1 ro hq hne hbq)) (GH.get_set_same hg4) (hu4.keep flat_co fun q row ro hq => (kk q (fun hh => ?_)).trans hq) (fun c hc => ?_) (by omega) (by omega) ?_ (by omega)
        · subst hh
          rw [hg4] at hq
          have := Option.some.inj hq
          injection this with _ h6 _
          exact absurd h6 (by decide)
        · rcases List.mem_append.1 hc with hc | hc
          · exact hpos c (List.mem_of_mem_take hc)
          · exact hpos c (List.mem_of_mem_drop hc)
        · rw [frC_app]; omega
      · rw [if_neg hz]
        have hp' : ∀ c ∈ cs.set m ⟨cs[m].art, cs[m].len - x⟩, 1 ≤ c.len ∧ c.len ≤ 1000000000 := fun c hc => by
          rcases List.mem_or_eq_of_mem_set hc with hc | hc
          · exact hpos c hc
          · rw [hc]; simp only; omega
        have h0 := (frC_le (cs.set m ⟨cs[m].art, cs[m].len - x⟩) a fun c hc => by have := hp' c hc; omega).1
        exact ih (cs.set m ⟨cs[m].art, cs[m].len - x⟩) vC _ _ H3 (.inr ⟨by omega, by omega⟩) j4 hK3 hg3 j5 hp' (by rw [List.length_set]; exact hl) (by omega) (by omega) (by omega)
    · rw [if_neg hn]
      exact All.mk (hQ cs vC kn H hE hK hg ho hl)
end
end Go.Proofs.Ythicilkmjamefaa
