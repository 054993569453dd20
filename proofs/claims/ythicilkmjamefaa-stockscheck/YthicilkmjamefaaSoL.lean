/- The program's Use. -/
import Derived.Test.YthicilkmjamefaaSoK
import Derived.Test.YthicilkmjamefaaShS7
namespace Go.Proofs.Ythicilkmjamefaa
open Go.Gh
set_option linter.unusedVariables false
set_option linter.unusedSimpArgs false

theorem take_ok {k : Nat} {a n : Int} {vC vH : Value} {cs : List ConeD} {H0 H : GH} {bx L : Nat} (hk : 2000 ≤ k) (hL : L ≤ 512) (hb : H0.n ≤ bx) (hE : Ext H0 H) (hg : H.get bx = some (.row [vC, vH] 88 false)) (ho : Ow tyCo 93 H0 H vC cs) (hp : ∀ c ∈ cs, 1 ≤ c.len ∧ c.len ≤ 1000000000) (hl : cs.length ≤ L) (h0 : 0 ≤ n) (hn : n ≤ frC cs a) (h9 : n ≤ 1000000000) :
    All (C (k + 2) (.func (.func 108) #[] #[]) [.pointer (some ⟨bx, 0, none⟩), .int .i64 a, .int .i64 n] H) fun r => ∃ cs' vC' kn', r.1 = .int .i64 kn' ∧ Ext H0 r.2 ∧ Kx bx 93 H r.2 ∧ r.2.get bx = some (.row [vC', vH] 88 false) ∧ Ow tyCo 93 H0 r.2 vC' cs' ∧ cs'.length ≤ L := by
  rw [C_func T108, f108_eq]
  unfold f108_sh
  exact tk_l2 (k := k) (k' := k + 1) (H1 := H) (by omega) hL hb (fun cs' vC' kn' H' a1 a2 a3 a4 a5 => ⟨cs', vC', kn', rfl, a1, a2, a3, a4, a5⟩) (k + 1) cs vC n 0 H (.inl (by omega)) hE (fun q row e1 ro hq _ _ => hq) hg ho hp hl h0 hn h9
theorem frH_ge : ∀ (hs : List HoldD) (x : Int), (∀ h ∈ hs, 0 ≤ h.len ∧ h.len ≤ 1000000000) → ∀ h ∈ hs, h.art = x → h.len ≤ frH hs x
  | [], _, _, h, hh, _ => by cases hh
  | g :: r, x, hv, h, hh, ha => by
    have hr := (frH_le r x fun y hy => hv y (by simp [hy])).1
    have he : frH (g :: r) x = (if g.art = x then g.len else 0) + frH r x := by unfold frH; rw [List.map_cons, List.sum_cons]
    rcases List.mem_cons.1 hh with rfl | hm
    · rw [he, if_pos ha]; omega
    · have := frH_ge r x (fun y hy => hv y (by simp [hy])) h hm ha
      have hg := hv g (by simp)
      rw [he]; split <;> omega
theorem cmpI_0 {a b : Int} : cmpI a b = 0 ↔ a = b := by unfold cmpI; split <;> first | omega | (split <;> omega)
theorem cmpI_ge {a b : Int} : 0 ≤ cmpI a b ↔ b ≤ a := by unfold cmpI; split <;> first | omega | (split <;> omega)
theorem cmpH_eq {a b : HoldD} (h : cmpH a b = 0) : a.ord = b.ord ∧ a.art = b.art := by
  unfold cmpH at h
  by_cases h1 : cmpI a.ord b.ord = 0
  · rw [if_neg (fun hn => hn h1)] at h
    exact ⟨cmpI_0.1 h1, cmpI_0.1 h⟩
  · rw [if_pos h1] at h
    exact absurd h h1
theorem build91 (o a l : Int) : oBuild Try.prog 91 [(0, .int .i64 o), (1, .int .i64 a), (2, .int .i64 l)] = some (hoV ⟨o, a, l⟩) := by kernel_rfl
theorem err3 {H0 H : GH} {b : Nat} {row : List Value} {code : Int → Int → Prop} {n e : Int} (hb : H0.n ≤ b) (hE : Ext H0 H) (hg : H.get b = some (.row row 88 false)) (hr : row.length = 2) (he : code n e) :
    All (onH (gStore Try.prog 88 (.pointer (some ⟨b, 0, none⟩)) (stV (.slice none 0 0) (.slice none 0 0)) H) fun H5 => onV (gResL Try.prog H5 [(.pointer (some ⟨b, 0, none⟩), some 88), (.int .i64 n, none), (.int .i64 e, none)]) fun v => some [(v, H5)]) (Ans3 H0 code) := by
  obtain ⟨H', r1, r2⟩ := ret3 (H0 := H0) (e := .int .i64 n) (f := .int .i64 e) (a1 := none) (a2 := none) (n1 := 0) (n2 := 0) (c1 := 0) (c2 := 0) hb hE hg hr
  rw [r2]
  exact All.mk ⟨r1, none, 0, 0, none, 0, 0, n, e, rfl, he⟩
theorem us_17 {k b bx : Nat} {H0 H : GH} {row : List Value} {code : Int → Int → Prop} {vC vH : Value} {cs : List ConeD} {hs : List HoldD} {kn : Int} (h : StI H vC vH cs hs) (hc : cs.length ≤ 1000000) (hh : hs.length ≤ 1000000) (hb : H0.n ≤ b) (hE : Ext H0 H) (hg : H.get b = some (.row row 88 false)) (hr : row.length = 2) (hx : H.get bx = some (.row [vC, vH] 88 false)) (he : ∀ n, code n 0) :
    All (f38_r17 (C (k + 2)) k (.pointer (some ⟨b, 0, none⟩)) (.pointer (some ⟨bx, 0, none⟩)) (.int .i64 kn) H) (Ans3 H0 code) := by
  unfold f38_r17
  simp only [st_ld (PtC.of hx), onV_s]
  refine All.callE (clone_ok (k := k) h hc hh) fun w H8 hw => ?_
  obtain ⟨hE8, w1, w2, hw, hw1, hw2⟩ := hw
  have hE8 : Ext H H8 := hE8
  have hw : w = stV w1 w2 := hw
  subst hw
  obtain ⟨aw, cw, rfl⟩ := hw1.slr.val
  obtain ⟨aw', cw', rfl⟩ := (hw2.cl hh).slr.val
  simp only [bin_sub, onV_s]
  obtain ⟨H', r1, r2⟩ := ret3 (H0 := H0) (e := .int .i64 (IntKind.wrap .i64 (kn - 1))) (f := .int .i64 0) (a1 := aw) (a2 := aw') (n1 := cs.length) (n2 := hs.length) (c1 := cw) (c2 := cw') hb (hE.trans hE8) (hE8.get_of hg) hr
  rw [r2]
  exact All.mk ⟨r1, aw, _, cw, aw', _, cw', _, 0, rfl, he _⟩
section
variable {k b b4 : Nat} {vC vH : Value} {cs : List ConeD} {hs : List HoldD} {row : List Value} {H0 H : GH} {code : Int → Int → Prop} {a l : Int}
theorem us_10 (hk : 5000 ≤ k) (hS : StI H vC vH cs hs) (h0 : chk cs hs = 0) (hE : Ext H0 H) (hb : H0.n ≤ b) (hg : H.get b = some (.row row 88 false)) (hr : row.length = 2) (h4 : H.get b4 = some (.row [vC, vH] 88 false)) (hl0 : 0 ≤ l) (hl9 : l ≤ 1000000000) {i : Nat} (hi : i < hs.length) (ha : hs[i].art = a)
    (c18 : code 0 18) (c0 : ∀ n, code n 0) : All (f38_r10 (C (k + 5)) (k + 5) (.int .i64 a) (.int .i64 l) (.pointer (some ⟨b4, 0, none⟩)) (.pointer (some ⟨b, 0, none⟩)) (.int .i64 i) H) (Ans3 H0 code) := by
  obtain ⟨q1, q2, q3, q4, q5⟩ := chk0 h0
  unfold f38_r10
  have l1 : gLoad Try.prog 86 (.pointer (some ⟨b4, 1, none⟩)) H = some vH := PtC.load1 (P := Try.prog) (t := 86) ⟨b4, 1, _, _, _, rfl, h4, by simp, rfl⟩ ld86
  obtain ⟨p, e1, e2⟩ := ho_at hS.h (k := .i64) hi
  obtain ⟨t0, t1, t2, a0, b0, a1, b1, a2, b2⟩ := ho_f e2
  have hnil : ((.agg #[(.slice none 0 0), (.slice none 0 0)]) : Value) = stV (.slice none 0 0) (.slice none 0 0) := rfl
  simp only [fa88_1, l1, onV_s, e1, a2, b2, bin_lss, asB_b, onBool_d, hnil]
  by_cases hlt : hs[i].len < l
  · rw [if_pos hlt]
    exact err3 hb hE hg hr c18
  · rw [if_neg hlt]
    simp only [st_ld (PtC.of h4), onV_s]
    refine All.callE (clone_ok (k := k + 3) hS (by omega) (by omega)) fun w H3 hw => ?_
    obtain ⟨hE3, w1, w2, hw, hw1, hw2⟩ := hw
    have hE3 : Ext H H3 := hE3
    have hw : w = stV w1 w2 := hw
    subst hw
    have hx1 : Ow tyCo 93 H0 H3 w1 cs := hw1.old hE.n
    have hx2 : Ow tyHo 91 H0 H3 w2 hs := (hw2.ow (by omega)).old hE.n
    clear hw1 hw2
    obtain ⟨aw, cw, rfl⟩ := hx1.slr.val
    obtain ⟨aw', cw', rfl⟩ := hx2.slr.val
    obtain ⟨H4, f1, f2, f3, f4⟩ := box (P := Try.prog) (t := 88) (H := H3) (v := stV (.slice aw cs.length cw) (.slice aw' hs.length cw')) (cs := [.slice aw cs.length cw, .slice aw' hs.length cw']) (row := [.slice none 0 0, .slice none 0 0]) (e := 88) (gSize_ld ld88) rfl rfl rfl
    simp only [f1, onH_s]
    have hE03 := hE.trans hE3
    have hE04 := hE03.trans f2
    have hn3 : H.n ≤ H3.n := hE3.n
    have hb3 : H3.n ≠ b := by have := GH.get_lt hg; omega
    have g4 : H4.get b = some (.row row 88 false) := f2.get_of (hE3.get_of hg)
    have y1 := hx1.ext f2
    have y2 := hx2.ext f2
    clear hx1 hx2
    have hle : l ≤ frC cs a := by
      have h1 := frH_ge hs a (fun x hx => holdOk_len (holds_ok q4 x hx)) _ (List.getElem_mem hi) ha
      have h2 : ¬ fr cs hs a < 0 := fun h => q5 ⟨a, h⟩
      unfold fr at h2
      omega
    have hpos : ∀ c ∈ cs, 1 ≤ c.len ∧ c.len ≤ 1000000000 := fun c hc => by
      have := cones_ok q3 c hc
      unfold coneOk at this
      simp only [Bool.and_eq_true, decide_eq_true_eq] at this
      omega
    unfold f38_r13
    refine All.call0 (take_ok (k := k + 3) (L := 512) (H0 := H0) (by omega) (by omega) hE03.n hE04 f3 y1 hpos q1 hl0 hle hl9) fun v H5 hv => ?_
    obtain ⟨cs', vC', kn, hv, hE5, hK5, g5, o5, hl5⟩ := hv
    have hE5 : Ext H0 H5 := hE5
    have hv : v = .int .i64 kn := hv
    subst hv
    have hK5 : Kx H3.n 93 H4 H5 := hK5
    have g5 : H5.get H3.n = some (.row [vC', .slice aw' hs.length cw'] 88 false) := g5
    have o5 : Ow tyCo 93 H0 H5 vC' cs' := o5
    have gb5 : H5.get b = some (.row row 88 false) := hK5 _ _ _ _ g4 (by decide) hb3
    have y5 : Ow tyHo 91 H0 H5 (.slice aw' hs.length cw') hs := y2.keep flat_ho fun q row ro hq => hK5 _ _ _ _ hq (by decide) (fun hh => by
      subst hh
      rw [f3] at hq
      have := Option.some.inj hq
      injection this with _ h6 _
      exact absurd h6 (by decide))
    have l5 : gLoad Try.prog 86 (.pointer (some ⟨H3.n, 1, none⟩)) H5 = some (.slice aw' hs.length cw') := PtC.load1 (P := Try.prog) (t := 86) ⟨H3.n, 1, _, _, _, rfl, g5, by simp, rfl⟩ ld86
    obtain ⟨p', e3, e4⟩ := ho_at y5.slr (k := .i64) hi
    obtain ⟨s0, s1, s2, c0', d0, c1', d1, c2', d2⟩ := ho_f e4
    simp only [fa88_1, l5, onV_s, e3, c2', d2, bin_sub]
    generalize IntKind.wrap .i64 (hs[i].len - l) = y
    obtain ⟨p2, p3, H8, j1, j2, j3, j4, j5, j6⟩ := y5.putF (P := Try.prog) (t := 86) (i := i) (f := 2) (off := 2) (t1 := 3) (w := .int .i64 y) (x := ⟨hs[i].ord, hs[i].art, y⟩) flat_ho u86 (gSize_ld ld91) hi fd91_2 (gSize_ld ld3) rfl rfl (by decide) (fun H cs h => by rw [show cs = hoC hs[i] from h]; rfl) hE5 (k := .i64)
    obtain rfl := Option.some.inj (e3.symm.trans j1)
    obtain rfl := Option.some.inj (c2'.symm.trans j2)
    simp only [j3, onH_s]
    have g8 := j6 _ _ _ _ g5 (by decide)
    have gb8 := j6 _ _ _ _ gb5 (by decide)
    have o8 : Ow tyCo 93 H0 H8 vC' cs' := SlR.keepCo o5 j6
    have hi8 : i < (hs.set i ⟨hs[i].ord, hs[i].art, y⟩).length := by rw [List.length_set]; exact hi
    have hl8 : (hs.set i ⟨hs[i].ord, hs[i].art, y⟩).length = hs.length := List.length_set ..
    have l8 : gLoad Try.prog 86 (.pointer (some ⟨H3.n, 1, none⟩)) H8 = some (.slice aw' hs.length cw') := PtC.load1 (P := Try.prog) (t := 86) ⟨H3.n, 1, _, _, _, rfl, g8, by simp, rfl⟩ ld86
    obtain ⟨p4, e5, e6⟩ := ho_at j5.slr (k := .i64) hi8
    rw [List.getElem_set_self] at e6
    obtain ⟨z0, z1, z2, m0, n0, m1, n1, m2, n2⟩ := ho_f e6
    unfold f38_r15
    simp only [fa88_1, l8, onV_s, e5, m2, n2, bin_eql, asB_b, onBool_d]
    by_cases hz : y = 0
    · rw [if_pos hz]
      unfold f38_r16
      simp only [fa88_1, l8, onV_s, bin_add]
      rw [wrS (by omega)]
      refine All.callE (delHo_ok (k := k + 4) j5 j4 hi8 (by omega)) fun u H9 hu => ?_
      obtain ⟨hE9, hK9, hu⟩ := hu
      have hE09 : Ext H0 H9 := hE9
      have hK89 : Kp 91 H8 H9 := hK9
      have hu9 : Ow tyHo 91 H0 H9 u ((hs.set i ⟨hs[i].ord, hs[i].art, y⟩).take i ++ (hs.set i ⟨hs[i].ord, hs[i].art, y⟩).drop (i + 1)) := hu
      clear hE9 hK9 hu
      have hlen : ((hs.set i ⟨hs[i].ord, hs[i].art, y⟩).take i ++ (hs.set i ⟨hs[i].ord, hs[i].art, y⟩).drop (i + 1)).length ≤ hs.length := by rw [List.length_append, List.length_take, List.length_drop]; omega
      revert hu9 hlen
      generalize ((hs.set i ⟨hs[i].ord, hs[i].art, y⟩).take i ++ (hs.set i ⟨hs[i].ord, hs[i].art, y⟩).drop (i + 1)) = zs
      intro hu9 hlen
      obtain ⟨au, cu, rfl⟩ := hu9.slr.val
      have g9 := hK89 _ _ _ _ g8 (by decide)
      have gb9 := hK89 _ _ _ _ gb8 (by decide)
      have o9 : Ow tyCo 93 H0 H9 vC' cs' := SlR.keepCo o8 hK89
      have hlt9 := GH.get_lt g9
      have hs1 := store1 (P := Try.prog) (t := 86) (o := 1) (v := .slice au zs.length cu) g9 (gSize_ld ld86) rfl rfl (by simp)
      simp only [hs1, onH_s]
      have kk : ∀ q, H3.n ≠ q → (H9.set H3.n (.row ([vC', .slice aw' hs.length cw'].set 1 (.slice au zs.length cu)) 88 false)).get q = H9.get q := fun q hq => GH.get_set_other hq hlt9
      have kn : ∀ q row e1 ro, e1 ≠ 88 → H9.get q = some (.row row e1 ro) → H3.n ≠ q := fun q row e1 ro hne hq hh => by
        subst hh
        rw [g9] at hq
        have := Option.some.inj hq
        injection this with _ h6 _
        exact hne h6.symm
      exact us_17 (k := k + 3) (vC := vC') (vH := .slice au zs.length cu) (cs := cs') (hs := zs) ⟨(o9.keep flat_co fun q row ro hq => (kk q (kn q row 93 ro (by decide) hq)).trans hq).slr, (hu9.keep flat_ho fun q row ro hq => (kk q (kn q row 91 ro (by decide) hq)).trans hq).slr⟩ (by omega) (by omega) hb (hE09.set hE03.n hlt9 _) ((kk _ hb3).trans gb9) hr (GH.get_set_same g9) c0
    · rw [if_neg hz]
      exact us_17 (k := k + 3) (vC := vC') (vH := .slice aw' hs.length cw') (cs := cs') ⟨o8.slr, j5.slr⟩ (by omega) (by omega) hb j4 gb8 hr g8 c0
end
theorem use_ok {k : Nat} {vC vH : Value} {cs : List ConeD} {hs : List HoldD} {H : GH} (hk : 5000 ≤ k) (h : StI H vC vH cs hs) (hl : hs.length ≤ 1000) (hcl : cs.length ≤ 1000) (o a l : Int) :
    All (C (k + 6) (.func (.func 38) #[] #[]) [stV vC vH, .int .i64 o, .int .i64 a, .int .i64 l] H) (Ans3 H fun n e => (chk cs hs ≠ 0 → n = 0 ∧ e = chk cs hs) ∧ (chk cs hs = 0 → (e = 1 ↔ holdOk ⟨o, a, l⟩ = false))) := by
  rw [C_func T38, f38_eq]
  unfold f38_sh
  have hcl' : (Value.cells (stV vC vH)).toList = [vC, vH] := rfl
  rw [hcl']
  have hn1 : (H.push (.row [vC, vH] 88 false)).n = H.n + 1 := rfl
  have hn2 : ((H.push (.row [vC, vH] 88 false)).push (.row [(.slice none 0 0), (.slice none 0 0)] 88 false)).n = H.n + 2 := rfl
  rw [hn1, hn2]
  have hE' : Ext H ((H.push (.row [vC, vH] 88 false)).push (.row [(.slice none 0 0), (.slice none 0 0)] 88 false)) := (Ext.push _ _).push' _
  have g0' : ((H.push (.row [vC, vH] 88 false)).push (.row [(.slice none 0 0), (.slice none 0 0)] 88 false)).get H.n = some (.row [vC, vH] 88 false) := (GH.get_push_old (Nat.lt_succ_self _)).trans GH.get_push_new
  have g1' : ((H.push (.row [vC, vH] 88 false)).push (.row [(.slice none 0 0), (.slice none 0 0)] 88 false)).get (H.n + 1) = some (.row [(.slice none 0 0), (.slice none 0 0)] 88 false) := GH.get_push_new
  have hnn : ((H.push (.row [vC, vH] 88 false)).push (.row [(.slice none 0 0), (.slice none 0 0)] 88 false)).n = H.n + 2 := rfl
  revert hE' g0' g1' hnn
  generalize ((H.push (.row [vC, vH] 88 false)).push (.row [(.slice none 0 0), (.slice none 0 0)] 88 false)) = G
  intro hE' g0' g1' hnn
  obtain ⟨H1, f1, f2, f3, f4⟩ := box (P := Try.prog) (t := 91) (H := G) (v := hoV ⟨o, a, l⟩) (cs := hoC ⟨o, a, l⟩) (row := [(.int .i64 0), (.int .i64 0), (.int .i64 0)]) (e := 91) (gSize_ld ld91) rfl rfl rfl
  rw [hnn] at f1 f3
  have hE : Ext H H1 := hE'.trans f2
  have g0 : H1.get H.n = some (.row [vC, vH] 88 false) := f2.get_of g0'
  have g1 : H1.get (H.n + 1) = some (.row [(.slice none 0 0), (.slice none 0 0)] 88 false) := f2.get_of g1'
  have h1 := h.mono hE
  simp only [build91, onV_s, f1, onH_s, st_ld (PtC.of g0)]
  refine All.call0 (check_ok hk h1 hl hcl) fun v H2 hv => ?_
  obtain ⟨hE2, hv⟩ := hv
  have hE2 : Ext H1 H2 := hE2
  have hv : v = .int .i64 (chk cs hs) := hv
  subst hv
  have hnil : ((.agg #[(.slice none 0 0), (.slice none 0 0)]) : Value) = stV (.slice none 0 0) (.slice none 0 0) := rfl
  simp only [bin_neq, onV_s, asB_b, onBool_d]
  by_cases he : chk cs hs = 0
  · rw [if_neg (fun h => h he)]
    simp only [ho_ld (PtC.of (hE2.get_of f3)), onV_s]
    refine All.callE (holdOk_ok (k := k + 3)) fun w H3 hw => ?_
    obtain ⟨hE3, hw⟩ := hw
    have hE3 : Ext H2 H3 := hE3
    have hw : w = .bool (holdOk ⟨o, a, l⟩) := hw
    subst hw
    have hE13 := hE2.trans hE3
    simp only [not_b, onV_s, asB_b, onBool_i]
    cases hok : holdOk ⟨o, a, l⟩ with
    | false =>
      simp only [Bool.not_false, if_true]
      unfold f38_r6
      simp only [hnil]
      exact err3 (show H.n ≤ H.n + 1 by omega) (hE.trans hE13) (hE13.get_of g1) rfl ⟨fun h => absurd he h, fun _ => by simp⟩
    | true =>
      simp only [Bool.not_true, Bool.false_eq_true, if_false]
      have hc : ∀ e : Int, e ≠ 1 → ∀ n : Int, (chk cs hs ≠ 0 → n = 0 ∧ e = chk cs hs) ∧ (chk cs hs = 0 → (e = 1 ↔ true = false)) := fun e hne n => ⟨fun h => absurd he h, fun _ => ⟨fun h => absurd h hne, fun h => by cases h⟩⟩
      unfold f38_r7
      have l3 : gLoad Try.prog 86 (.pointer (some ⟨H.n, 1, none⟩)) H3 = some vH := PtC.load1 (P := Try.prog) (t := 86) ⟨H.n, 1, _, _, _, rfl, hE13.get_of g0, by simp, rfl⟩ ld86
      simp only [fa88_1, l3, onV_s, ho_ld (PtC.of (hE13.get_of f3)), hnil]
      refine All.call0 (bs_ok (k := k + 1) (by omega) (h1.h.mono hE13) hl) fun w H4 hw => ?_
      obtain ⟨hE4, i, fd, hw, hi, hfd⟩ := hw
      have hE4 : Ext H3 H4 := hE4
      have hw : w = .tuple #[.int .i64 i, .bool fd] := hw
      subst hw
      simp only [ext2.1, ext2.2, onV_s, not_b, asB_b, onBool_i]
      have hE14 := hE13.trans hE4
      cases fd with
      | false =>
        simp only [Bool.not_false, if_true]
        exact err3 (show H.n ≤ H.n + 1 by omega) (hE.trans hE14) (hE14.get_of g1) rfl (hc 7 (by decide) 0)
      | true =>
        simp only [Bool.not_true, Bool.false_eq_true, if_false]
        obtain ⟨hi', hcm⟩ := hfd rfl
        have hll := holdOk_len hok
        exact us_10 hk (h1.mono hE14) he (hE.trans hE14) (show H.n ≤ H.n + 1 by omega) (hE14.get_of g1) rfl (hE14.get_of g0) hll.1 hll.2 hi' (cmpH_eq hcm).2 (hc 18 (by decide) 0) (hc 0 (by decide))
  · rw [if_pos he]
    unfold f38_r4
    simp only [hnil]
    exact err3 (show H.n ≤ H.n + 1 by omega) (hE.trans hE2) (hE2.get_of g1) rfl ⟨fun _ => ⟨rfl, rfl⟩, fun h => absurd h he⟩
end Go.Proofs.Ythicilkmjamefaa
/- The law: the stock that is tried; whether its cones are valid. -/
namespace Go.Proofs.Ythicilkmjamefaa
open Go.Gh
set_option linter.unusedVariables false
set_option linter.unusedSimpArgs false

def Yes (r : Value × GH) : Prop := r.1 = .bool true
theorem lives_end {k : Nat} {H : GH} : All (onCall 0 (C (k + 1)) (.func (.func 33) #[] #[]) [] H fun v1 H2 => some [(v1, H2)]) Yes := by
  have h : Ev (C (k + 1) (.func (.func 33) #[] #[]) [] H) fun r => r = (.bool true, H) := by
    rw [C_none N33 rfl]
    exact Ev.mk rfl
  refine All.callE h fun v H' hv => ?_
  injection hv with h1 h2
  subst h1
  exact All.mk rfl
theorem rem60 {t : Int} : (oBin Try.prog .rem 89 (.int .u16 t) (.int .u16 60)).filter closed = some (.int .u16 (t.tmod 60)) := by kernel_rfl
theorem conv89 (i : Int) : (oConvert Try.prog 89 3 (.int .u16 i)).filter closed = some (.int .i64 (IntKind.wrap .i64 i)) := by kernel_rfl
theorem times {t : Int} (h0 : 0 ≤ t) : ∃ M : Nat, M ≤ 60 ∧ IntKind.wrap .i64 (1 + IntKind.wrap .i64 (t.tmod 60)) = (M : Int) := by
  rw [Int.tmod_eq_emod_of_nonneg h0]
  have h1 := Int.emod_nonneg t (show (60 : Int) ≠ 0 by decide)
  have h2 := Int.emod_lt_of_pos t (show (0 : Int) < 60 by decide)
  rw [Go.IntWalk.i64_in (t % 60) (by omega), Go.IntWalk.i64_in _ (by omega)]
  exact ⟨(1 + t % 60).toNat, by omega, by omega⟩
theorem build88_1 {a : Option Addr} {n c : Nat} : oBuild Try.prog 88 [(1, .slice a n c)] = some (stV (.slice none 0 0) (.slice a n c)) := by kernel_rfl
theorem own_ne {α : Type} {A : Ty α} {e e' : TypeId} {H0 H : GH} {v : Value} {xs : List α} {b : Nat} {row : List Value} {ro : Bool} (h : Own A e H0 H v xs) (hg : H.get b = some (.row row e' ro)) (hne : e' ≠ e) : blkOf v ≠ some b := by
  rcases h with ⟨rfl, _⟩ | ⟨b', cs, rfl, h2, h3, h4⟩
  · exact fun h => by cases h
  · intro h
    injection h with h
    have h : b' = b := h
    subst h
    rw [hg] at h3
    have := Option.some.inj h3
    injection this with _ h6 _
    exact hne h6
section
variable {c : Handle} {k' b3 bx : Nat} {t : Int} {x5 sC sH vH : Value} {scs : List ConeD} {H0 : GH} {Q : Value × GH → Prop}
theorem lw_l5 (h0 : 0 ≤ t) (g3 : H0.get b3 = some (.row [sC, sH] 88 false)) (hs : SlR tyCo H0 sC scs) (hl : scs.length ≤ 12) (hbx : H0.n ≤ bx)
    (hQ : ∀ xs vC H', Ext H0 H' → H'.get bx = some (.row [vC, vH] 88 false) → SlR tyCo H' vC xs → xs.length ≤ 600 → All (f7_r8 c k' x5 (.pointer (some ⟨bx, 0, none⟩)) H') Q) :
    ∀ (r i : Nat) (xs : List ConeD) (vC : Value) (H : GH), i ≤ 60 → 60 - i < r → Ext H0 H → H.get bx = some (.row [vC, vH] 88 false) → Own tyCo 93 H0 H vC xs → xs.length ≤ 600 →
      All (f7_l5 c k' r (.int .u16 t) (.pointer (some ⟨b3, 0, none⟩)) x5 (.pointer (some ⟨bx, 0, none⟩)) (.int .i64 i) H) Q := by
  intro r
  induction r with
  | zero => intro i xs vC H _ h; omega
  | succ r ih =>
    intro i xs vC H hi hr hE hg ho hx
    show All (f7_l5b c k' (f7_l5 c k' r) (.int .u16 t) (.pointer (some ⟨b3, 0, none⟩)) x5 (.pointer (some ⟨bx, 0, none⟩)) (.int .i64 i) H) Q
    obtain ⟨M, hM, hM'⟩ := times h0
    unfold f7_l5b f7_g5_7 f7_r6
    have l0 : gLoad Try.prog 85 (.pointer (some ⟨bx, 0, none⟩)) H = some vC := PtC.load1 (P := Try.prog) (t := 85) ⟨bx, 0, _, _, _, rfl, hg, by simp, rfl⟩ ld85
    have l3 : gLoad Try.prog 85 (.pointer (some ⟨b3, 0, none⟩)) H = some sC := PtC.load1 (P := Try.prog) (t := 85) ⟨b3, 0, _, _, _, rfl, hE.get_of g3, by simp, rfl⟩ ld85
    have hol := (ho.slr hE).oLen u85
    simp only [rem60, conv89, bin_add, hM', bin_lss, onV_s, asB_b, onBool_d]
    by_cases h1 : i < M
    · rw [if_pos (by omega)]
      simp only [fa88, l0, l3, onV_s, hol, bin_lss, asB_b, onBool_d]
      by_cases h2 : xs.length < 520
      · rw [if_pos (by omega)]
        obtain ⟨new, hf, hnc⟩ := (hs.mono hE).first
        obtain ⟨v', H5, a1, a2, a3, a4, a5, a6⟩ := Own.append (P := Try.prog) (st := 85) (xt := 85) hE ho u85 u85 el93 hs.val hf (hnc.flat flat_co) (by omega)
        have hg5 := (a5 bx (GH.get_lt hg) (own_ne ho hg (by decide))).trans hg
        have hlt := GH.get_lt hg5
        obtain ⟨av, cv, rfl⟩ := (a3.slr a2).val
        have hs1 := store1 (P := Try.prog) (t := 85) (o := 0) (v := .slice av (xs ++ scs).length cv) hg5 (gSize_ld ld85) rfl rfl (by simp)
        simp only [fa88, a1, onVH_s, onV_s, hs1, onH_s, bin_add]
        rw [wrS (by omega)]
        have hne := own_ne a3 hg5 (by decide)
        exact ih (i + 1) (xs ++ scs) (.slice av (xs ++ scs).length cv) _ (by omega) (by omega) (a2.set hbx hlt _) (GH.get_set_same hg5) (a3.keep fun b hb => GH.get_set_other (fun hh => hne (by rw [hb, hh])) hlt) (by rw [List.length_append]; omega)
      · rw [if_neg (by omega)]
        exact hQ xs vC H hE hg (ho.slr hE) hx
    · rw [if_neg (by omega)]
      exact hQ xs vC H hE hg (ho.slr hE) hx
end
theorem coneOk_iff {c : ConeD} : coneOk c = true ↔ 1 ≤ c.art ∧ c.art ≤ 1000 ∧ 1 ≤ c.len ∧ c.len ≤ 1000000000 := by
  unfold coneOk
  simp only [Bool.and_eq_true, decide_eq_true_eq]
theorem coneOk_no {c : ConeD} (h : ¬ (1 ≤ c.art ∧ c.art ≤ 1000 ∧ 1 ≤ c.len ∧ c.len ≤ 1000000000)) : coneOk c = false := by
  cases hh : coneOk c with
  | false => rfl
  | true => exact absurd (coneOk_iff.1 hh) h
section
variable {c : Handle} {k' bx i j : Nat} {x5 x7 q w vC vH : Value} {H H0 : GH} {Q : Value × GH → Prop} {sg : Sg4} {x : ConeD} {cs : List ConeD}
theorem lw_r13 (hq : PtC H q (coC x)) (hi : i ≤ 1000000) (h1 : coneOk x = true → All (sg x5 x7 w (.int .i64 (i + 1 : Nat)) H) Q) (h2 : coneOk x = false → All (sg x5 x7 (.int .i64 1) (.int .i64 (i + 1 : Nat)) H) Q) :
    All (f7_r13 c k' sg x5 x7 w (.int .i64 i) q H) Q := by
  unfold f7_r13 f7_g13_4 f7_g13_9 f7_g13_14 f7_r14
  obtain ⟨q0, q1, a0, b0, a1, b1⟩ := co_f hq
  simp only [a0, b0, a1, b1, onV_s, bin_lss, bin_gtr, bin_add, asB_b, onBool_d]
  rw [wrS (by omega)]
  by_cases c1 : x.art < 1
  · rw [if_pos c1]; exact h2 (coneOk_no (by omega))
  rw [if_neg c1]
  by_cases c2 : 1000 < x.art
  · rw [if_pos c2]; exact h2 (coneOk_no (by omega))
  rw [if_neg c2]
  by_cases c3 : x.len < 1
  · rw [if_pos c3]; exact h2 (coneOk_no (by omega))
  rw [if_neg c3]
  by_cases c4 : 1000000000 < x.len
  · rw [if_pos c4]; exact h2 (coneOk_no (by omega))
  rw [if_neg c4]
  exact h1 (coneOk_iff.2 (by omega))
theorem lw_l10 (hg : H0.get bx = some (.row [vC, vH] 88 false)) (hs : SlR tyCo H0 vC cs) (hl : cs.length ≤ 1000)
    (hgo : ∀ w H', Ext H0 H' → (w = 0 ∧ ¬ CBad cs) ∨ (w = 1 ∧ CBad cs) → All (f7_r15 c k' x5 (.pointer (some ⟨bx, 0, none⟩)) (.int .i64 w) H') Q) :
    ∀ (r i : Nat) (w : Int) (H : GH), i ≤ cs.length → cs.length - i < r → Ext H0 H → (w = 0 ∧ ∀ c ∈ cs.take i, coneOk c = true) ∨ (w = 1 ∧ CBad cs) →
      All (f7_l10 c k' r x5 (.pointer (some ⟨bx, 0, none⟩)) (.int .i64 w) (.int .i64 i) H) Q := by
  intro r
  induction r with
  | zero => intro i w H _ h; omega
  | succ r ih =>
    intro i w H hi hr hE hw
    show All (f7_l10b c k' (f7_l10 c k' r) x5 (.pointer (some ⟨bx, 0, none⟩)) (.int .i64 w) (.int .i64 i) H) Q
    unfold f7_l10b
    have l0 : gLoad Try.prog 85 (.pointer (some ⟨bx, 0, none⟩)) H = some vC := PtC.load1 (P := Try.prog) (t := 85) ⟨bx, 0, _, _, _, rfl, hE.get_of hg, by simp, rfl⟩ ld85
    simp only [fa88, l0, onV_s, (hs.mono hE).oLen u85, bin_lss, asB_b, onBool_d]
    by_cases hlt : i < cs.length
    · rw [if_pos (by omega)]
      obtain ⟨q, e1, e2⟩ := co_at (hs.mono hE) (k := .i64) hlt
      obtain ⟨H1, f1, f2, f3, f4⟩ := box (P := Try.prog) (t := 93) (H := H) (v := coV cs[i]) (cs := coC cs[i]) (row := [(.int .i64 0), (.int .i64 0)]) (e := 93) (gSize_ld ld93) rfl rfl rfl
      simp only [e1, onV_s, co_ld e2, f1, onH_s]
      refine lw_r13 (PtC.of f3) (by omega) (fun hok => ih (i + 1) w H1 (by omega) (by omega) (hE.trans f2) ?_) (fun hno => ih (i + 1) 1 H1 (by omega) (by omega) (hE.trans f2) (.inr ⟨rfl, _, List.getElem_mem hlt, hno⟩))
      rcases hw with ⟨h1, h2⟩ | h
      · refine .inl ⟨h1, fun c hc => ?_⟩
        rw [List.take_succ_eq_append_getElem hlt] at hc
        rcases List.mem_append.1 hc with hc | hc
        · exact h2 c hc
        · rw [List.mem_singleton] at hc; rw [hc]; exact hok
      · exact .inr h
    · rw [if_neg (by omega)]
      refine hgo w H hE ?_
      rcases hw with ⟨h1, h2⟩ | h
      · refine .inl ⟨h1, fun ⟨c, hc, hb⟩ => ?_⟩
        have := h2 c (by rw [List.take_of_length_le (by omega)]; exact hc)
        rw [this] at hb; cases hb
      · exact .inr h
end
end Go.Proofs.Ythicilkmjamefaa
/- The law: whether the holds are valid. -/
namespace Go.Proofs.Ythicilkmjamefaa
open Go.Gh
set_option linter.unusedVariables false
set_option linter.unusedSimpArgs false

theorem holdOk_iff {h : HoldD} : holdOk h = true ↔ 1 ≤ h.ord ∧ h.ord ≤ 100000 ∧ 1 ≤ h.art ∧ h.art ≤ 1000 ∧ 1 ≤ h.len ∧ h.len ≤ 1000000000 := by
  unfold holdOk coneOk
  simp only [Bool.and_eq_true, decide_eq_true_eq]
theorem holdOk_no {h : HoldD} (hn : ¬ (1 ≤ h.ord ∧ h.ord ≤ 100000 ∧ 1 ≤ h.art ∧ h.art ≤ 1000 ∧ 1 ≤ h.len ∧ h.len ≤ 1000000000)) : holdOk h = false := by
  cases hh : holdOk h with
  | false => rfl
  | true => exact absurd (holdOk_iff.1 hh) hn
theorem cmpH_ge {a b : HoldD} : 0 ≤ cmpH a b ↔ (b.ord < a.ord ∨ (a.ord = b.ord ∧ b.art ≤ a.art)) := by
  unfold cmpH
  by_cases h1 : cmpI a.ord b.ord = 0
  · rw [if_neg (fun hn => hn h1), cmpI_ge]
    have := cmpI_0.1 h1
    omega
  · rw [if_pos h1, cmpI_ge]
    have : a.ord ≠ b.ord := fun h => h1 (cmpI_0.2 h)
    omega
section
variable {c : Handle} {k' bx i : Nat} {x5 q vC vH : Value} {w : Value} {H H0 : GH} {Q : Value × GH → Prop} {sg : Sg4} {cs : List ConeD} {hs : List HoldD}
theorem lw_g21 (hg : H.get bx = some (.row [vC, vH] 88 false)) (hh : SlR tyHo H vH hs) (hi : i < hs.length) (hl : hs.length ≤ 1000000) (hq : PtC H q (hoC hs[i]))
    (h1 : (∀ g, i ≠ 0 → hs[i - 1]? = some g → ¬ 0 ≤ cmpH g hs[i]) → All (sg x5 (.pointer (some ⟨bx, 0, none⟩)) w (.int .i64 (i + 1 : Nat)) H) Q)
    (h2 : (∃ g, i ≠ 0 ∧ hs[i - 1]? = some g ∧ 0 ≤ cmpH g hs[i]) → All (sg x5 (.pointer (some ⟨bx, 0, none⟩)) (.int .i64 1) (.int .i64 (i + 1 : Nat)) H) Q) :
    All (f7_g21_3 c k' sg (.bool (decide ((0 : Int) < i))) x5 (.pointer (some ⟨bx, 0, none⟩)) w (.int .i64 i) q H) Q := by
  unfold f7_g21_3 f7_g21_14 f7_g21_25 f7_r17 f7_r22
  have l1 : gLoad Try.prog 86 (.pointer (some ⟨bx, 1, none⟩)) H = some vH := PtC.load1 (P := Try.prog) (t := 86) ⟨bx, 1, _, _, _, rfl, hg, by simp, rfl⟩ ld86
  obtain ⟨q0, q1, q2, a0, b0, a1, b1, a2, b2⟩ := ho_f hq
  simp only [asB_b, onBool_d, bin_add]
  have hw1 : IntKind.wrap .i64 ((i : Int) + 1) = ((i + 1 : Nat) : Int) := wrS (by omega)
  by_cases h0 : 0 < i
  · rw [if_pos (by omega)]
    have hi1 : i - 1 < hs.length := by omega
    have hw0 : IntKind.wrap .i64 ((i : Int) - 1) = ((i - 1 : Nat) : Int) := by rw [Go.IntWalk.i64_in _ (by omega)]; omega
    obtain ⟨p, e1, e2⟩ := ho_at hh (k := .i64) hi1
    obtain ⟨s0, s1, s2, c0, d0, c1, d1, c2, d2⟩ := ho_f e2
    have hget : hs[i - 1]? = some hs[i - 1] := List.getElem?_eq_getElem hi1
    have hbad : 0 ≤ cmpH hs[i - 1] hs[i] → ∃ g, i ≠ 0 ∧ hs[i - 1]? = some g ∧ 0 ≤ cmpH g hs[i] := fun h => ⟨_, by omega, hget, h⟩
    have hgood : ¬ 0 ≤ cmpH hs[i - 1] hs[i] → ∀ g, i ≠ 0 → hs[i - 1]? = some g → ¬ 0 ≤ cmpH g hs[i] := fun h g _ hg => by
      rw [hget] at hg
      rw [← Option.some.inj hg]; exact h
    simp only [fa88_1, l1, onV_s, bin_sub, hw0, e1, c0, d0, a0, b0, c1, d1, a1, b1, bin_gtr, bin_eql, bin_geq, asB_b, onBool_d, hw1]
    by_cases c1 : hs[i].ord < hs[i - 1].ord
    · rw [if_pos c1]; exact h2 (hbad (cmpH_ge.2 (.inl c1)))
    rw [if_neg c1]
    by_cases c2 : hs[i - 1].ord = hs[i].ord
    · rw [if_pos c2]
      by_cases c3 : hs[i].art ≤ hs[i - 1].art
      · rw [if_pos c3]; exact h2 (hbad (cmpH_ge.2 (.inr ⟨c2, c3⟩)))
      · rw [if_neg c3]; exact h1 (hgood fun h => by have := cmpH_ge.1 h; omega)
    · rw [if_neg c2]; exact h1 (hgood fun h => by have := cmpH_ge.1 h; omega)
  · rw [if_neg (by omega)]
    simp only [hw1, onV_s]
    exact h1 fun g hn => absurd (by omega) hn
theorem lw_r19 (hg : H.get bx = some (.row [vC, vH] 88 false)) (hh : SlR tyHo H vH hs) (hi : i < hs.length) (hl : hs.length ≤ 1000000) (hq : PtC H q (hoC hs[i]))
    (h1 : ¬ badAt hs i hs[i] → All (sg x5 (.pointer (some ⟨bx, 0, none⟩)) w (.int .i64 (i + 1 : Nat)) H) Q)
    (h2 : badAt hs i hs[i] → All (sg x5 (.pointer (some ⟨bx, 0, none⟩)) (.int .i64 1) (.int .i64 (i + 1 : Nat)) H) Q) :
    All (f7_r19 c k' sg x5 (.pointer (some ⟨bx, 0, none⟩)) w (.int .i64 i) q H) Q := by
  unfold f7_r19 f7_g19_4 f7_g19_9 f7_g19_14 f7_g19_19 f7_g19_24 f7_r20 f7_r21 f7_r21x
  obtain ⟨q0, q1, q2, a0, b0, a1, b1, a2, b2⟩ := ho_f hq
  simp only [a0, b0, a1, b1, a2, b2, onV_s, bin_lss, bin_gtr, asB_b, onBool_d]
  have hno : holdOk hs[i] = false → All (f7_g21_3 c k' sg (.bool (decide ((0 : Int) < i))) x5 (.pointer (some ⟨bx, 0, none⟩)) (.int .i64 1) (.int .i64 i) q H) Q := fun h => lw_g21 hg hh hi hl hq (fun _ => h2 (.inl h)) fun _ => h2 (.inl h)
  by_cases c1 : hs[i].ord < 1
  · rw [if_pos c1]; exact hno (holdOk_no (by omega))
  rw [if_neg c1]
  by_cases c2 : 100000 < hs[i].ord
  · rw [if_pos c2]; exact hno (holdOk_no (by omega))
  rw [if_neg c2]
  by_cases c3 : hs[i].art < 1
  · rw [if_pos c3]; exact hno (holdOk_no (by omega))
  rw [if_neg c3]
  by_cases c4 : 1000 < hs[i].art
  · rw [if_pos c4]; exact hno (holdOk_no (by omega))
  rw [if_neg c4]
  by_cases c5 : hs[i].len < 1
  · rw [if_pos c5]; exact hno (holdOk_no (by omega))
  rw [if_neg c5]
  by_cases c6 : 1000000000 < hs[i].len
  · rw [if_pos c6]; exact hno (holdOk_no (by omega))
  rw [if_neg c6]
  have hok : holdOk hs[i] = true := holdOk_iff.2 (by omega)
  refine lw_g21 hg hh hi hl hq (fun hn => h1 fun hb => ?_) fun hb => h2 (.inr hb)
  rcases hb with hb | ⟨g, r1, r2, r3⟩
  · rw [hok] at hb; cases hb
  · exact hn g r1 r2 r3
theorem lw_l16 (hg : H0.get bx = some (.row [vC, vH] 88 false)) (hh : SlR tyHo H0 vH hs) (hl : hs.length ≤ 1000)
    (hgo : ∀ w H', Ext H0 H' → (w = 0 ∧ ¬ CBad cs ∧ ¬ HBad hs) ∨ (w = 1 ∧ (CBad cs ∨ HBad hs)) → All (f7_r23 c k' x5 (.pointer (some ⟨bx, 0, none⟩)) (.int .i64 w) H') Q) :
    ∀ (r i : Nat) (w : Int) (H : GH), i ≤ hs.length → hs.length - i < r → Ext H0 H → (w = 0 ∧ ¬ CBad cs ∧ ∀ n h, n < i → hs[n]? = some h → ¬ badAt hs n h) ∨ (w = 1 ∧ (CBad cs ∨ HBad hs)) →
      All (f7_l16 c k' r x5 (.pointer (some ⟨bx, 0, none⟩)) (.int .i64 w) (.int .i64 i) H) Q := by
  intro r
  induction r with
  | zero => intro i w H _ h; omega
  | succ r ih =>
    intro i w H hi hr hE hw
    show All (f7_l16b c k' (f7_l16 c k' r) x5 (.pointer (some ⟨bx, 0, none⟩)) (.int .i64 w) (.int .i64 i) H) Q
    unfold f7_l16b
    have l1 : gLoad Try.prog 86 (.pointer (some ⟨bx, 1, none⟩)) H = some vH := PtC.load1 (P := Try.prog) (t := 86) ⟨bx, 1, _, _, _, rfl, hE.get_of hg, by simp, rfl⟩ ld86
    simp only [fa88_1, l1, onV_s, (hh.mono hE).oLen u86, bin_lss, asB_b, onBool_d]
    by_cases hlt : i < hs.length
    · rw [if_pos (by omega)]
      obtain ⟨q, e1, e2⟩ := ho_at (hh.mono hE) (k := .i64) hlt
      obtain ⟨H1, f1, f2, f3, f4⟩ := box (P := Try.prog) (t := 91) (H := H) (v := hoV hs[i]) (cs := hoC hs[i]) (row := [(.int .i64 0), (.int .i64 0), (.int .i64 0)]) (e := 91) (gSize_ld ld91) rfl rfl rfl
      simp only [e1, onV_s, ho_ld e2, f1, onH_s]
      have hE1 := hE.trans f2
      have hget : hs[i]? = some hs[i] := List.getElem?_eq_getElem hlt
      refine lw_r19 (hE1.get_of hg) (hh.mono hE1) hlt (by omega) (PtC.of f3) (fun hok => ih (i + 1) w H1 (by omega) (by omega) hE1 ?_) (fun hno => ih (i + 1) 1 H1 (by omega) (by omega) hE1 (.inr ⟨rfl, .inr ⟨i, _, hget, hno⟩⟩))
      rcases hw with ⟨h1, h2, h3⟩ | h
      · refine .inl ⟨h1, h2, fun n x hn hx => ?_⟩
        rcases Nat.lt_or_ge n i with h4 | h4
        · exact h3 n x h4 hx
        · have hni : n = i := by omega
          subst hni
          rw [hget] at hx
          rw [← Option.some.inj hx]
          exact hok
      · exact .inr h
    · rw [if_neg (by omega)]
      refine hgo w H hE ?_
      rcases hw with ⟨h1, h2, h3⟩ | h
      · refine .inl ⟨h1, h2, fun ⟨n, x, hx, hb⟩ => ?_⟩
        have := (List.getElem?_eq_some_iff.1 hx).1
        exact h3 n x (by omega) hx hb
      · exact .inr h
end
end Go.Proofs.Ythicilkmjamefaa
