/- The program's binary search, and how it inserts a hold. -/
import Derived.Test.YthicilkmjamefaaSoD
namespace Go.Proofs.Ythicilkmjamefaa
open Go.Gh
set_option linter.unusedVariables false
set_option linter.unusedSimpArgs false

theorem conv3_234 (i : Int) : (oConvert Try.prog 3 234 (.int .i64 i)).filter closed = some (.int .u64 (IntKind.wrap .u64 i)) := by kernel_rfl
theorem conv234_3 (i : Int) : (oConvert Try.prog 234 3 (.int .u64 i)).filter closed = some (.int .i64 (IntKind.wrap .i64 i)) := by kernel_rfl
theorem shr1 (i : Int) : (oBin Try.prog .shr 234 (.int .u64 i) (.int .u64 1)).filter closed = some (.int .u64 (i.fdiv 2)) := by kernel_rfl
theorem half (i j : Nat) (h : i + j ≤ 2000000) : (IntKind.wrap .i64 ((IntKind.wrap .u64 (IntKind.wrap .i64 ((i : Int) + j))).fdiv 2)) = (((i + j) / 2 : Nat) : Int) := by
  rw [Go.IntWalk.i64_in ((i : Int) + j) (by omega), Go.IntWalk.u64_in _ (by omega), Go.IntWalk.i64_in _ (by rw [Int.fdiv_eq_ediv_of_nonneg _ (by omega)]; omega), Int.fdiv_eq_ediv_of_nonneg _ (by omega)]
  omega
theorem build86_1 {H : GH} {h : HoldD} : gBuildSlice Try.prog 86 1 [(0, hoV h)] H = some (.slice (some ⟨H.n, 0, none⟩) 1 1, H.push (.row (hoC h) 91 false)) := by kernel_rfl
section
variable {k k' : Nat} {v : Value} {xs : List HoldD} {H0 H : GH} {h : HoldD} {Q : Value × GH → Prop}
theorem bs_l3 (hk : 20 ≤ k) {p : Value} (hp : PtC H0 p (hoC h)) (hs : SlR tyHo H0 v xs) (hl : xs.length ≤ 1000)
    (hQ : ∀ (i : Nat) (f : Bool) H', Ext H0 H' → i ≤ xs.length → (f = true → ∃ hn : i < xs.length, cmpH xs[i] h = 0) → Q (.tuple #[.int .i64 i, .bool f], H')) :
    ∀ (r i j : Nat) (H : GH), i ≤ j → j ≤ xs.length → j - i < r → Ext H0 H → All (f103_l3 (C (k + 3)) k' r v (.func (.func 96) #[] #[]) p (.int .i64 xs.length) (.int .i64 i) (.int .i64 j) H) Q := by
  intro r
  induction r with
  | zero => intro i j H _ _ h; omega
  | succ r ih =>
    intro i j H hij hj hr hE
    show All (f103_l3b (C (k + 3)) k' (f103_l3 (C (k + 3)) k' r) v (.func (.func 96) #[] #[]) p (.int .i64 xs.length) (.int .i64 i) (.int .i64 j) H) Q
    unfold f103_l3b
    simp only [bin_lss, onV_s, asB_b, onBool_d]
    by_cases hlt : i < j
    · rw [if_pos (by omega)]
      simp only [bin_add, onV_s, conv3_234, shr1, conv234_3, half i j (by omega)]
      unfold f103_r5
      have hm : (i + j) / 2 < xs.length := by omega
      obtain ⟨q, e1, e2⟩ := ho_at (hs.mono hE) (k := .i64) hm
      simp only [e1, ho_ld e2, ho_ld (hp.mono hE), onV_s]
      refine All.callS 1 (R := fun v _ => v = .int .i64 (cmpH xs[(i + j) / 2] h)) (Sp.of (fun lo => cmpH_ok (k := k) (by omega)) fun _ _ _ h => h) fun w H2 hE2 hw => ?_
      subst hw
      simp only [bin_lss, onV_s, asB_b, onBool_d]
      split
      · simp only [bin_add, onV_s]
        rw [wrS (by omega)]
        exact ih _ j H2 (by omega) hj (by omega) (hE.trans hE2)
      · exact ih i _ H2 (by omega) (by omega) (by omega) (hE.trans hE2)
    · rw [if_neg (by omega)]
      unfold f103_r8
      simp only [bin_lss, onV_s]
      unfold f103_g8_5
      simp only [asB_b, onBool_d]
      by_cases hn : i < xs.length
      · rw [if_pos (by omega)]
        obtain ⟨q, e1, e2⟩ := ho_at (hs.mono hE) (k := .i64) hn
        simp only [e1, ho_ld e2, ho_ld (hp.mono hE), onV_s]
        refine All.callS 1 (R := fun v _ => v = .int .i64 (cmpH xs[i] h)) (Sp.of (fun lo => cmpH_ok (k := k) (by omega)) fun _ _ _ h => h) fun w H2 hE2 hw => ?_
        subst hw
        simp only [bin_eql, onV_s]
        exact All.mk (hQ i _ H2 (hE.trans hE2) (by omega) fun hz => ⟨hn, by simpa using hz⟩)
      · rw [if_neg (by omega)]
        exact All.mk (hQ i false H hE (by omega) fun h => by cases h)
theorem bs_ok (hk : 2000 ≤ k) (hs : SlR tyHo H v xs) (hl : xs.length ≤ 1000) :
    All (C (k + 4) (.func (.func 103) #[] #[]) [v, hoV h, .func (.func 96) #[] #[]] H) fun r => Ext H r.2 ∧ ∃ (i : Nat) (f : Bool), r.1 = .tuple #[.int .i64 i, .bool f] ∧ i ≤ xs.length ∧ (f = true → ∃ hn : i < xs.length, cmpH xs[i] h = 0) := by
  rw [C_func T103, f103_eq]
  unfold f103_sh
  have hc : (Value.cells (hoV h)).toList = hoC h := rfl
  rw [hc]
  have hE := Ext.push H (.row (hoC h) 91 false)
  simp only [hs.oLen u86, onV_s]
  exact bs_l3 (k := k) (by omega) (PtC.new H _ _ _) (hs.mono hE) hl (fun i f H' a b c => ⟨hE.trans a, i, f, rfl, b, c⟩) (k + 3) 0 xs.length _ (by omega) (Nat.le_refl _) (by omega) (.refl _)
/-- A hold is inserted. -/
theorem insert_ok {p2 : Value} (hv : Tight tyHo H0 H v xs) (hp : SlR tyHo H p2 [h]) (hE : Ext H0 H) (hl : xs.length ≤ 1000) {i : Nat} (hi : i ≤ xs.length) :
    All (C (k + 1) (.func (.func 104) #[] #[]) [v, .int .i64 i, p2] H) fun r => Ext H0 r.2 ∧ Kp 91 H r.2 ∧ ∃ ys, SlE tyHo 91 r.2 r.1 ys ∧ ys.length ≤ xs.length + 1 := by
  rw [C_func T104, f104_eq]
  unfold f104_sh
  have hcl := hv.cl (by omega)
  have hsl : ∃ v1, oSlice Try.prog 86 v (some (.int .i64 i)) none none = some v1 := by
    rcases hv with ⟨rfl, rfl⟩ | ⟨b, cs, rfl, h2, h3, h4⟩
    · have : i = 0 := by simpa using hi
      subst this
      exact ⟨.slice none 0 0, by kernel_rfl⟩
    · exact ⟨_, slice_from u86 (elemOk_size el91) (by unfold loose; omega) hi (Nat.le_refl _)⟩
  obtain ⟨v1, hv1⟩ := hsl
  have hpl : oLen Try.prog 86 p2 = some (.int .i64 1) := hp.oLen u86
  simp only [hv1, hpl, onV_s, bin_eql, asB_b, onBool_d]
  rw [if_neg (by omega)]
  simp only [hcl.oLen u86, onV_s, bin_eql, asB_b, onBool_d]
  by_cases hin : i = xs.length
  · rw [if_pos (by omega)]
    obtain ⟨new, hf, hc⟩ := hp.first
    obtain ⟨v', H', g1, g2, g3, g4⟩ := hcl.app (P := Try.prog) (t := 86) (xt := 86) (y := p2) (ys := [h]) flat_ho u86 u86 el91 hp.val hf hc (by simp) (by simp; omega) hE
    simp only [g1, onVH_s]
    exact All.mk ⟨g2, g4, _, g3.sle, by simp⟩
  · rw [if_neg (by omega)]
    rcases hv with ⟨rfl, rfl⟩ | ⟨b, cs, rfl, h2, h3, h4⟩
    · simp at hi hin; omega
    · have hlo : xs.length < loose := by unfold loose; omega
      have hcap : oCap Try.prog 86 (.slice (some ⟨b, 0, none⟩) xs.length xs.length) = some (.int .i64 xs.length) := by
        unfold oCap
        simp only [u86]
        rw [if_pos hlo]
      simp only [bin_add, hcap, onV_s, bin_gtr, asB_b, onBool_d]
      rw [wrS (by omega), if_pos (by omega)]
      unfold f104_r9
      have hs91 := elemOk_size el91
      have hsto := slice_to (P := Try.prog) (t := 86) (b := b) (o := 0) (n := xs.length) (c := xs.length) (m := i) (k := .i64) u86 hs91 hlo (by omega)
      simp only [hsto, onV_s, bin_add, bin_sub]
      rw [wrS (by omega), Go.IntWalk.i64_in _ (by omega), show (((xs.length + 1 : Nat) : Int) - (i : Int)) = ((xs.length + 1 - i : Nat) : Int) by omega]
      have hro : Ro tyHo 91 H b xs := ⟨cs, h3, h4⟩
      have ht : SlR tyHo H (.slice (some ⟨b, 0, none⟩) i xs.length) (xs.take i) := by
        have := hro.slr (i := 0) (m := i) (c := xs.length) (by omega)
        rw [Nat.zero_mul, List.drop_zero] at this
        exact this
      obtain ⟨H5, a1, a2, a3, a4⟩ := app_zeros (P := Try.prog) (t := 86) (xt := 3) (l := xs.length + 1 - i) (kd := .i64) flat_ho ht (by rw [List.length_take]; omega) u86 Try.underlying3 el91 hlo (by omega) (by omega) (by omega) zHo
      rw [show tyHo.sz = 3 from rfl] at a1
      simp only [a1, onVH_s]
      rw [show i + (xs.length + 1 - i) = xs.length + 1 by omega]
      have hlo1 : xs.length + 1 < loose := by unfold loose; omega
      have s6 := slice_fromL (P := Try.prog) (t := 86) (b := H.n) (o := 0) (n := xs.length + 1) (i := i) (k := .i64) u86 hs91 (by omega) hlo1
      simp only [tyHo, Nat.zero_add] at s6
      have hwl : (xs.take i ++ List.replicate (xs.length + 1 - i) (⟨0, 0, 0⟩ : HoldD)).length = xs.length + 1 := by rw [List.length_append, List.length_take, List.length_replicate]; omega
      obtain ⟨o6, c6, r6⟩ := copy_ro (P := Try.prog) (t := 86) (i := i) (dl := xs.length + 1 - i) (dc := loose + 3) flat_ho a4 (hp.mono a2) u86 hs91 (by simp; omega) (by simp) (by rw [hwl]; simp; omega)
      simp only [tyHo] at c6
      simp only [s6, onV_s, c6, onVH_s]
      have hE6 : Ext H (H5.set H.n o6) := a2.set (Nat.le_refl _) (by omega) _
      have hn6 : (H5.set H.n o6).n = H.n + 1 := a3
      revert hE6 hn6 r6
      generalize H5.set H.n o6 = H6
      intro r6 hE6 hn6
      unfold f104_r11
      have s7 := slice_fromL (P := Try.prog) (t := 86) (b := H.n) (o := 0) (n := xs.length + 1) (i := i + 1) (k := .i64) u86 hs91 (by omega) hlo1
      simp only [tyHo, Nat.zero_add] at s7
      have s8 := slice_from (P := Try.prog) (t := 86) (b := b) (o := 0) (n := xs.length) (c := xs.length) (i := i) (k := .i64) u86 hs91 hlo (by omega) (Nat.le_refl _)
      rw [if_neg (by omega), Nat.zero_add] at s8
      have hsrc : SlR tyHo H6 (.slice (some ⟨b, i * tyHo.sz, none⟩) (xs.length - i) (xs.length - i)) (xs.drop i) := by
        have := (hro.slr (i := i) (m := xs.length - i) (c := xs.length - i) (by omega)).mono hE6
        rw [List.take_of_length_le (by rw [List.length_drop]; exact Nat.le_refl _)] at this
        exact this
      have hdl : (xs.drop i).length = xs.length - i := List.length_drop
      have hwl6 : (List.take i (xs.take i ++ List.replicate (xs.length + 1 - i) (⟨0, 0, 0⟩ : HoldD)) ++ [h] ++ List.drop (i + [h].length) (xs.take i ++ List.replicate (xs.length + 1 - i) (⟨0, 0, 0⟩ : HoldD))).length = xs.length + 1 := by
        rw [List.length_append, List.length_append, List.length_take, List.length_drop, hwl, List.length_singleton]; omega
      obtain ⟨o7, c7, r7⟩ := copy_ro (P := Try.prog) (t := 86) (i := i + 1) (dl := xs.length + 1 - (i + 1)) (dc := loose + 3) flat_ho r6 hsrc u86 hs91 (by rw [hdl]; omega) (by rw [hdl]; omega) (by rw [hwl6, hdl]; omega)
      simp only [tyHo] at c7 s8
      simp only [bin_add, onV_s]
      rw [wrS (by omega)]
      simp only [s7, s8, c7, onV_s, onVH_s]
      have hE7 : Ext H (H6.set H.n o7) := hE6.set (Nat.le_refl _) (by omega) _
      obtain ⟨ws, hws, r8⟩ : ∃ ws : List HoldD, ws.length = xs.length + 1 ∧ Ro tyHo 91 (H6.set H.n o7) H.n ws := ⟨_, by rw [List.length_append, List.length_append, List.length_take, hwl6, hdl, List.length_drop, hwl6]; omega, r7⟩
      have hsle := r8.sle (c := loose + 3)
      rw [hws] at hsle
      exact All.mk ⟨hE.trans hE7, Kp.of hE7, ws, hsle, Nat.le_of_eq hws⟩
end
end Go.Proofs.Ythicilkmjamefaa
/- The program's Reserve. -/
namespace Go.Proofs.Ythicilkmjamefaa
open Go.Gh
set_option linter.unusedVariables false
set_option linter.unusedSimpArgs false

theorem neg_i (a : Int) : (oUn Try.prog .neg (.int .i64 a)).filter closed = some (.int .i64 (IntKind.wrap .i64 (0 - a))) := by kernel_rfl
theorem chk0 {cs : List ConeD} {hs : List HoldD} (h : chk cs hs = 0) : cs.length ≤ 512 ∧ hs.length ≤ 512 ∧ ¬ CBad cs ∧ ¬ HBad hs ∧ ¬ Short cs hs := by
  unfold chk at h
  by_cases h1 : 512 < cs.length ∨ 512 < hs.length
  · rw [if_pos h1] at h; omega
  · rw [if_neg h1] at h
    by_cases h2 : CBad cs ∨ HBad hs
    · rw [if_pos h2] at h; omega
    · rw [if_neg h2] at h
      by_cases h3 : Short cs hs
      · rw [if_pos h3] at h; omega
      · exact ⟨by omega, by omega, fun h => h2 (.inl h), fun h => h2 (.inr h), h3⟩
theorem ext2 {a b : Value} : oExtract (.tuple #[a, b]) 0 = some a ∧ oExtract (.tuple #[a, b]) 1 = some b := ⟨rfl, rfl⟩
section
variable {k : Nat} {vC vH p1 : Value} {cs : List ConeD} {hs : List HoldD} {H0 H : GH} {h : HoldD}
/-- What lacks of one hold: a map of one entry. -/
theorem missing_ok (hk : 3000 ≤ k) (hS : StI H vC vH cs hs) (h0 : chk cs hs = 0) (hp : SlR tyHo H p1 [h]) (hok : holdOk h = true) :
    All (C (k + 3) (.func (.func 102) #[] #[]) [stV vC vH, p1] H) fun r => Ext H r.2 ∧ ∃ R es clock, r.1 = .map (some R) ∧ r.2.get R = some (.map (mE TI es) clock) ∧ WfM es clock ∧ es.length ≤ 1 ∧ ∀ e ∈ es, ∃ x, e.v = .int .i64 x := by
  rw [C_func T102, f102_eq]
  unfold f102_sh
  obtain ⟨q1, q2, q3, q4, q5⟩ := chk0 h0
  have hcl' : (Value.cells (stV vC vH)).toList = [vC, vH] := rfl
  rw [hcl']
  have hn1 : (H.push (.row [vC, vH] 88 false)).n = H.n + 1 := rfl
  rw [hn1]
  have hE : Ext H ((H.push (.row [vC, vH] 88 false)).push (.map [] 0)) := (Ext.push _ _).push' _
  have g0 : ((H.push (.row [vC, vH] 88 false)).push (.map [] 0)).get H.n = some (.row [vC, vH] 88 false) := (GH.get_push_old (Nat.lt_succ_self _)).trans GH.get_push_new
  have g1 : ((H.push (.row [vC, vH] 88 false)).push (.map [] 0)).get (H.n + 1) = some (.map (mE TI []) 0) := GH.get_push_new
  have hn : ((H.push (.row [vC, vH] 88 false)).push (.map [] 0)).n = H.n + 2 := rfl
  have h1 := hS.mono hE
  revert hE g0 g1 h1 hn
  generalize (H.push (.row [vC, vH] 88 false)).push (.map [] 0) = H1
  intro hE g0 g1 hn h1
  simp only [st_ld (PtC.of g0), onV_s]
  refine All.callE (free_ok (k := k + 1) (by omega) h1 (by omega) (fun x hx => holdOk_len (holds_ok q4 x hx)) (by omega) (fun x hx => coneOk_len (cones_ok q3 x hx))) fun v2 H3 hv => ?_
  obtain ⟨hE3, R', es', clock', hR', hv2, hget, hIM, _⟩ := hv
  have hE3 : Ext H1 H3 := hE3
  have hv2 : v2 = .map (some R') := hv2
  have hget : H3.get R' = some (.map (mE TI es') clock') := hget
  subst hv2
  have hE03 := hE.trans hE3
  have hpl : oLen Try.prog 86 p1 = some (.int .i64 1) := hp.oLen u86
  simp only [hpl, onV_s]
  obtain ⟨r, rfl⟩ : ∃ r, k = r + 2 := ⟨k - 2, by omega⟩
  show All (f102_l4b (C (r + 4)) (r + 4) (f102_l4 (C (r + 4)) (r + 4) (r + 3)) (.map (some (H.n + 1))) (.map (some R')) p1 (.int .i64 1) (.int .i64 0) H3) _
  unfold f102_l4b
  simp only [bin_lss, onV_s, asB_b, onBool_d]
  rw [if_pos (by omega)]
  obtain ⟨q, e1, e2⟩ := ho_at (hp.mono hE03) (k := .i64) (i := 0) (by simp)
  have e1 : oIndexAddr Try.prog 86 p1 (.int .i64 0) = some q := e1
  have e2 : PtC H3 q (hoC h) := e2
  obtain ⟨H4, f1, f2, f3, f4⟩ := box (P := Try.prog) (t := 91) (H := H3) (v := hoV h) (cs := hoC h) (row := [(.int .i64 0), (.int .i64 0), (.int .i64 0)]) (e := 91) (gSize_ld ld91) rfl rfl rfl
  simp only [e1, ho_ld e2, onV_s, f1, onH_s, ho_ld (PtC.of f3)]
  refine All.callE (holdOk_ok (k := r + 2)) fun w H5 hw => ?_
  obtain ⟨hE5, hw⟩ := hw
  have hE5 : Ext H4 H5 := hE5
  have hw : w = .bool (holdOk h) := hw
  subst hw
  simp only [hok, not_b, onV_s, asB_b, Bool.not_true, onBool_i, Bool.false_eq_true, if_false]
  have hE35 := f2.trans hE5
  have hE15 := hE3.trans hE35
  have g1' := hE15.get_of g1
  have hget' := hE35.get_of hget
  have f3' := hE5.get_of f3
  have hE05 := hE.trans hE15
  have hE35n : H3.n ≤ H5.n := hE35.n
  have hlt1 : H.n + 1 < H5.n := GH.get_lt g1'
  have hbox : H.n + 1 ≠ H3.n := by have := hE3.n; have : H1.n ≤ H3.n := hE3.n; omega
  have hRne : H.n + 1 ≠ R' := by omega
  clear hw hE5 hE35 hE15 f1 f2 f3 f4 e2 e1
  have hE05 : Ext H H5 := hE05
  have g1' : H5.get (H.n + 1) = some (.map (mE TI []) 0) := g1'
  have hget' : H5.get R' = some (.map (mE TI es') clock') := hget'
  have f3' : H5.get H3.n = some (.row (hoC h) 91 false) := f3'
  obtain ⟨G, hG⟩ : ∃ G, G = H5 := ⟨_, rfl⟩
  rw [← hG] at hE05 g1' hget' f3' hlt1
  show All (f102_r7 (C (r + 4)) (r + 4) (f102_l4 (C (r + 4)) (r + 4) (r + 3)) (.map (some (H.n + 1))) (.map (some R')) (.pointer (some ⟨H3.n, 0, none⟩)) p1 (.int .i64 1) (.int .i64 0) H5) _
  rw [← hG]
  unfold f102_r7
  obtain ⟨a0, a1, a2, b0, c0, b1, c1, b2, c2⟩ := ho_f (PtC.of f3')
  have lk : gLookup Try.prog 186 (.map (some (H.n + 1))) (.int .i64 h.art) true G = some (.tuple #[.int .i64 0, .bool false]) := map_look2 (T := TI) g1' h.art
  simp only [b1, c1, onV_s, lk, ext2.1, ext2.2, not_b, asB_b, onBool_i, Bool.not_false, if_true]
  unfold f102_r9
  have lf : gLookup Try.prog 186 (.map (some R')) (.int .i64 h.art) false G = some (.int .i64 (fr cs hs h.art)) := by
    have := map_look (T := TI) hget' h.art
    rw [show TI.z = .int .i64 0 from rfl, hIM.look] at this
    exact this
  simp only [b1, c1, onV_s, lf, neg_i]
  generalize IntKind.wrap .i64 (0 - fr cs hs h.art) = y
  have pt : gMapUpdate Try.prog 186 (.map (some (H.n + 1))) (.int .i64 h.art) (.int .i64 y) G = some (G.set (H.n + 1) (.map (mE TI [⟨h.art, .int .i64 y, 0⟩]) 1)) := map_put (T := TI) (es := []) g1' h.art (.int .i64 y)
  simp only [pt, onH_s]
  have hE6 : Ext H (G.set (H.n + 1) (.map (mE TI [⟨h.art, .int .i64 y, 0⟩]) 1)) := hE05.set (by omega) hlt1 _
  have g6 := GH.get_set_same (o := .map (mE TI [⟨h.art, .int .i64 y, 0⟩]) 1) g1'
  have f6 : (G.set (H.n + 1) (.map (mE TI [⟨h.art, .int .i64 y, 0⟩]) 1)).get H3.n = some (.row (hoC h) 91 false) := (GH.get_set_other hbox hlt1).trans f3'
  have hlt6 : H.n + 1 < (G.set (H.n + 1) (.map (mE TI [⟨h.art, .int .i64 y, 0⟩]) 1)).n := hlt1
  revert hE6 g6 f6 hlt6
  generalize G.set (H.n + 1) (.map (mE TI [⟨h.art, .int .i64 y, 0⟩]) 1) = G6
  intro hE6 g6 f6 hlt6
  unfold f102_r10
  obtain ⟨a0', a1', a2', b0', c0', b1', c1', b2', c2'⟩ := ho_f (PtC.of f6)
  have lk6 : gLookup Try.prog 186 (.map (some (H.n + 1))) (.int .i64 h.art) false G6 = some (.int .i64 y) := by
    have := map_look (T := TI) g6 h.art
    simp only [getM, if_true, Option.getD_some] at this
    exact this
  simp only [b1', c1', b2', c2', lk6, onV_s, bin_add]
  generalize IntKind.wrap .i64 (y + h.len) = z
  have pt6 : gMapUpdate Try.prog 186 (.map (some (H.n + 1))) (.int .i64 h.art) (.int .i64 z) G6 = some (G6.set (H.n + 1) (.map (mE TI [⟨h.art, .int .i64 z, 0⟩]) 1)) := by
    have := map_put (T := TI) g6 h.art (.int .i64 z)
    simp only [putM, clockM, mkeys, List.map_cons, List.map_nil, List.mem_singleton, if_true, setV] at this
    exact this
  simp only [pt6, onH_s]
  rw [show IntKind.wrap .i64 ((0 : Int) + 1) = 1 from rfl]
  show All (f102_l4b (C (r + 4)) (r + 4) (f102_l4 (C (r + 4)) (r + 4) (r + 2)) (.map (some (H.n + 1))) (.map (some R')) p1 (.int .i64 1) (.int .i64 1) _) _
  unfold f102_l4b
  simp only [bin_lss, onV_s, asB_b, onBool_d]
  rw [if_neg (by omega)]
  refine All.mk ⟨hE6.set (by omega) hlt6 _, H.n + 1, [⟨h.art, .int .i64 z, 0⟩], 1, rfl, GH.get_set_same g6, (WfM.nil.put h.art (.int .i64 z) : _), Nat.le_refl _, fun e he => ?_⟩
  rw [List.mem_singleton] at he
  rw [he]
  exact ⟨z, rfl⟩
theorem bad_ok {k : Nat} {x : HoldD} {H : GH} : Ev (C (k + 3) (.func (.func 101) #[] #[]) [hoV x] H) fun r => Ext H r.2 ∧ r.1 = .bool (!holdOk x) := by
  rw [C_func T101, f101_eq]
  unfold f101_sh
  have hc : (Value.cells (hoV x)).toList = hoC x := rfl
  rw [hc]
  have hE := Ext.push H (.row (hoC x) 91 false)
  simp only [ho_ld (PtC.new H (hoC x) 91 false), onV_s]
  refine Ev.call0 (holdOk_ok (k := k)) fun w H2 hw => ?_
  obtain ⟨hE2, hw⟩ := hw
  have hw : w = .bool (holdOk x) := hw
  subst hw
  simp only [not_b, onV_s]
  exact Ev.mk ⟨hE.trans hE2, rfl⟩
theorem long_ok {k : Nat} {x : HoldD} {H : GH} : Ev (C (k + 1) (.func (.func 105) #[] #[]) [hoV x] H) fun r => Ext H r.2 ∧ r.1 = .bool (decide (1000000000 < x.len)) := by
  rw [C_func T105, f105_eq]
  unfold f105_sh
  have hc : (Value.cells (hoV x)).toList = hoC x := rfl
  rw [hc]
  have hE := Ext.push H (.row (hoC x) 91 false)
  have l0 : gLoad Try.prog 3 (.pointer (some ⟨H.n, 2, none⟩)) (H.push (.row (hoC x) 91 false)) = some (.int .i64 x.len) := PtC.load1 (P := Try.prog) (t := 3) ⟨H.n, 2, _, _, _, rfl, GH.get_push_new, by simp [hoC], rfl⟩ ld3
  simp only [l0, onV_s, bin_gtr]
  exact Ev.mk ⟨hE, rfl⟩
theorem rv_20 {k b4 b9 : Nat} {vC vH : Value} {cs : List ConeD} {ys : List HoldD} {row : List Value} {H0 H : GH} {code : Int → Nat → Prop} (hk : 5000 ≤ k) (hS : StI H vC vH cs ys) (hl : ys.length ≤ 1000) (hcl : cs.length ≤ 1000) (hE : Ext H0 H) (h4 : H0.n ≤ b4) (g4 : H.get b4 = some (.row row 88 false)) (hr : row.length = 2) (g9 : H.get b9 = some (.row [vC, vH] 88 false))
    (c3 : ∀ n, code 3 n) (c9 : ∀ n, code 9 n) (c0 : ∀ n, code 0 n) : All (f36_r20 (C (k + 5)) (k + 5) (.pointer (some ⟨b4, 0, none⟩)) (.pointer (some ⟨b9, 0, none⟩)) H) (Ans H0 code) := by
  unfold f36_r20
  have l9 : ∀ H', Ext H H' → gLoad Try.prog 86 (.pointer (some ⟨b9, 1, none⟩)) H' = some vH := fun H' hE' => PtC.load1 (P := Try.prog) (t := 86) ⟨b9, 1, _, _, _, rfl, hE'.get_of g9, by simp, rfl⟩ ld86
  have hnil : ((.agg #[(.slice none 0 0), (.slice none 0 0)]) : Value) = stV (.slice none 0 0) (.slice none 0 0) := rfl
  simp only [fa88_1, l9 _ (.refl _), onV_s, hnil]
  refine All.callE (contains_ok (k := k + 3) (by omega) (pr := fun x => decide (1000000000 < x.len)) (Inv := fun _ => True) (fun x H' _ => long_ok (k := k + 2)) (fun _ _ _ _ => trivial) hS.h hl trivial) fun w H2 hw => ?_
  obtain ⟨hE2, hw⟩ := hw
  have hE2 : Ext H H2 := hE2
  have hw : w = .bool (ys.any fun x => decide (1000000000 < x.len)) := hw
  subst hw
  simp only [asB_b, onBool_i]
  split
  · exact err2 h4 (hE.trans hE2) (hE2.get_of g4) hr (c3 _)
  · simp only [l9 _ hE2, onV_s, hS.h.oLen u86, bin_gtr, asB_b, onBool_d]
    split
    · exact err2 h4 (hE.trans hE2) (hE2.get_of g4) hr (c9 _)
    · simp only [st_ld (PtC.of (hE2.get_of g9)), onV_s]
      exact clone2 (k := k + 3) (hS.mono hE2) (by omega) (by omega) h4 (hE.trans hE2) (hE2.get_of g4) hr c0
theorem rv_11 {k b2 b4 : Nat} {vC vH p1 : Value} {cs : List ConeD} {hs : List HoldD} {h : HoldD} {row : List Value} {H0 H : GH} {code : Int → Nat → Prop} (hk : 5000 ≤ k) (hS : StI H vC vH cs hs) (hl : hs.length ≤ 512) (hcl : cs.length ≤ 1000) (hE : Ext H0 H) (h4 : H0.n ≤ b4) (g4 : H.get b4 = some (.row row 88 false)) (hr : row.length = 2) (g2 : H.get b2 = some (.row [vC, vH] 88 false)) (hp : SlR tyHo H p1 [h])
    (c3 : ∀ n, code 3 n) (c9 : ∀ n, code 9 n) (c0 : ∀ n, code 0 n) : All (f36_r11 (C (k + 5)) (k + 5) p1 (.pointer (some ⟨b2, 0, none⟩)) (.pointer (some ⟨b4, 0, none⟩)) H) (Ans H0 code) := by
  unfold f36_r11
  simp only [st_ld (PtC.of g2), onV_s]
  refine All.callE (clone_ok (k := k + 3) hS (by omega) (by omega)) fun w H3 hw => ?_
  obtain ⟨hE3, w1, w2, hw, hw1, hw2⟩ := hw
  have hE3 : Ext H H3 := hE3
  have hw : w = stV w1 w2 := hw
  subst hw
  have hx1 : Ow tyCo 93 H H3 w1 cs := hw1
  have hx2 : Tight tyHo H H3 w2 hs := hw2
  clear hw1 hw2
  obtain ⟨aw, cw, rfl⟩ := hx1.slr.val
  obtain ⟨aw', cw', rfl⟩ := (hx2.cl (by omega)).slr.val
  obtain ⟨H4, f1, f2, f3, f4⟩ := box (P := Try.prog) (t := 88) (H := H3) (v := stV (.slice aw cs.length cw) (.slice aw' hs.length cw')) (cs := [.slice aw cs.length cw, .slice aw' hs.length cw']) (row := [.slice none 0 0, .slice none 0 0]) (e := 88) (gSize_ld ld88) rfl rfl rfl
  have hpl : oLen Try.prog 86 p1 = some (.int .i64 1) := hp.oLen u86
  simp only [f1, onH_s, hpl, onV_s]
  have hE4 := hE3.trans f2
  have b34 : H3.n ≠ b4 := by have h1 := GH.get_lt g4; have h2 : H.n ≤ H3.n := hE3.n; omega
  show All (f36_l13b (C (k + 5)) (k + 5) (f36_l13 (C (k + 5)) (k + 5) (k + 4)) (.pointer (some ⟨b4, 0, none⟩)) (.pointer (some ⟨H3.n, 0, none⟩)) p1 (.int .i64 1) (.int .i64 0) H4) _
  unfold f36_l13b
  simp only [bin_lss, onV_s, asB_b, onBool_d]
  rw [if_pos (by omega)]
  obtain ⟨q, e1, e2⟩ := ho_at (hp.mono hE4) (k := .i64) (i := 0) (by simp)
  have e1 : oIndexAddr Try.prog 86 p1 (.int .i64 0) = some q := e1
  have e2 : PtC H4 q (hoC h) := e2
  obtain ⟨H5, i1, i2, i3, i4⟩ := box (P := Try.prog) (t := 91) (H := H4) (v := hoV h) (cs := hoC h) (row := [(.int .i64 0), (.int .i64 0), (.int .i64 0)]) (e := 91) (gSize_ld ld91) rfl rfl rfl
  simp only [e1, ho_ld e2, onV_s, i1, onH_s]
  unfold f36_r15
  have f3' := i2.get_of f3
  have l9 : ∀ H', Ext H5 H' → gLoad Try.prog 86 (.pointer (some ⟨H3.n, 1, none⟩)) H' = some (.slice aw' hs.length cw') := fun H' hE' => PtC.load1 (P := Try.prog) (t := 86) ⟨H3.n, 1, _, _, _, rfl, hE'.get_of f3', by simp, rfl⟩ ld86
  simp only [fa88_1, l9 _ (.refl _), onV_s, ho_ld (PtC.of i3)]
  have ht5 : Tight tyHo H H5 (.slice aw' hs.length cw') hs := (hx2.ext f2).ext i2
  have hE5 := hE4.trans i2
  refine All.call0 (bs_ok (k := k + 1) (by omega) (ht5.cl (by omega)).slr (by omega)) fun w H6 hw => ?_
  obtain ⟨hE6, i, fd, hw, hi, hfd⟩ := hw
  have hE6 : Ext H5 H6 := hE6
  have hw : w = .tuple #[.int .i64 i, .bool fd] := hw
  subst hw
  simp only [ext2.1, ext2.2, onV_s, not_b, asB_b, onBool_i]
  have hE06 := hE5.trans hE6
  have ht6 := ht5.ext hE6
  have hfin : ∀ G (ys : List HoldD) v', Ext H G → (∀ q row e1 ro, H6.get q = some (.row row e1 ro) → e1 ≠ 91 → H3.n ≠ q → G.get q = some (.row row e1 ro)) → G.get H3.n = some (.row [.slice aw cs.length cw, v'] 88 false) → SlE tyHo 91 G v' ys → ys.length ≤ hs.length + 1 → All (f36_l13 (C (k + 5)) (k + 5) (k + 4) (.pointer (some ⟨b4, 0, none⟩)) (.pointer (some ⟨H3.n, 0, none⟩)) p1 (.int .i64 1) (.int .i64 1) G) (Ans H0 code) := by
    intro G ys v' hEG hKG k9 o2 hyl
    have k4 : G.get b4 = some (.row row 88 false) := hKG _ _ _ _ ((hE5.trans hE6).get_of g4) (by decide) b34
    have o1 : Ow tyCo 93 H G (.slice aw cs.length cw) cs := (((hx1.ext f2).ext i2).ext hE6).keep flat_co fun q row ro hq => hKG _ _ _ _ hq (by decide) (fun hh => by
      subst hh
      rw [hE6.get_of f3'] at hq
      have := Option.some.inj hq
      injection this with _ h6 _
      exact absurd h6 (by decide))
    show All (f36_l13b (C (k + 5)) (k + 5) (f36_l13 (C (k + 5)) (k + 5) (k + 3)) (.pointer (some ⟨b4, 0, none⟩)) (.pointer (some ⟨H3.n, 0, none⟩)) p1 (.int .i64 1) (.int .i64 1) G) _
    unfold f36_l13b
    simp only [bin_lss, onV_s, asB_b, onBool_d]
    rw [if_neg (by omega)]
    exact rv_20 hk ⟨o1.slr, o2.slr⟩ (by omega) hcl (hE.trans hEG) h4 k4 hr k9 c3 c9 c0
  have l11 := ho_ld (PtC.of (hE6.get_of i3))
  cases fd with
  | false =>
    simp only [Bool.not_false, if_true]
    unfold f36_r17
    simp only [fa88_1, l9 _ hE6, onV_s, l11, build86_1, onVH_s]
    have hE7 := Ext.push H6 (.row (hoC h) 91 false)
    have hp2 : SlR tyHo (H6.push (.row (hoC h) 91 false)) (.slice (some ⟨H6.n, 0, none⟩) 1 1) [h] := .inr ⟨H6.n, 0, 1, _, 91, false, hoC h, rfl, GH.get_push_new, Nat.le_refl _, rfl, .cons (c := hoC h) (cs := []) rfl .nil⟩
    refine All.call0 (insert_ok (k := k + 4) (ht6.ext hE7) hp2 (hE06.trans hE7) (by omega) hi) fun u H8 hu => ?_
    obtain ⟨hE8, hK8, ys, hu, hyl⟩ := hu
    have hE68 : Ext H H8 := hE8
    have hK68 : Kp 91 H6 H8 := (Kp.of hE7).trans hK8
    have hu8 : SlE tyHo 91 H8 u ys := hu
    clear hE8 hK8 hu
    obtain ⟨au, cu, rfl⟩ := hu8.val
    have f38 := hK68 _ _ _ _ (hE6.get_of f3') (by decide)
    have hlt := GH.get_lt f38
    have hs1 := store1 (P := Try.prog) (t := 86) (o := 1) (v := .slice au ys.length cu) f38 (gSize_ld ld86) rfl rfl (by simp)
    simp only [hs1, onH_s, bin_add, onV_s]
    have kk : ∀ q, H3.n ≠ q → (H8.set H3.n (.row ([.slice aw cs.length cw, .slice aw' hs.length cw'].set 1 (.slice au ys.length cu)) 88 false)).get q = H8.get q := fun q hq => GH.get_set_other hq hlt
    exact hfin _ ys (.slice au ys.length cu) (hE68.set (show H.n ≤ H3.n from hE3.n) hlt _) (fun q row e1 ro hq hne h3 => (kk q h3).trans (hK68 _ _ _ _ hq hne)) (GH.get_set_same f38) (hu8.keep flat_ho fun q row ro hq => kk q (fun hh => by
      subst hh
      rw [f38] at hq
      have := Option.some.inj hq
      injection this with _ h6 _
      exact absurd h6 (by decide))) hyl
  | true =>
    simp only [Bool.not_true, Bool.false_eq_true, if_false]
    unfold f36_r18
    obtain ⟨hi', _⟩ := hfd rfl
    have ho6 := ht6.ow (by omega)
    obtain ⟨q', e3, e4⟩ := ho_at ho6.slr (k := .i64) hi'
    obtain ⟨t0, t1, t2, a0, b0, a1, b1, a2, b2⟩ := ho_f e4
    obtain ⟨z0, z1, z2, c0', d0, c1', d1, c2', d2⟩ := ho_f (PtC.of (hE6.get_of i3))
    simp only [fa88_1, l9 _ hE6, onV_s, e3, a2, b2, c2', d2, bin_add]
    generalize IntKind.wrap .i64 (hs[i].len + h.len) = y
    obtain ⟨p, p2, H8, j1, j2, j3, j4, j5, j6⟩ := ho6.putF (P := Try.prog) (t := 86) (i := i) (f := 2) (off := 2) (t1 := 3) (w := .int .i64 y) (x := ⟨hs[i].ord, hs[i].art, y⟩) flat_ho u86 (gSize_ld ld91) hi' fd91_2 (gSize_ld ld3) rfl rfl (by decide) (fun H cs h => by rw [show cs = hoC hs[i] from h]; rfl) hE06 (k := .i64)
    obtain rfl := Option.some.inj (e3.symm.trans j1)
    obtain rfl := Option.some.inj (a2.symm.trans j2)
    simp only [j3, onH_s]
    unfold f36_r19
    simp only [bin_add, onV_s]
    have hsle : SlE tyHo 91 H8 (.slice aw' hs.length cw') (hs.set i ⟨hs[i].ord, hs[i].art, y⟩) := by
      rcases j5 with j5 | ⟨b, zs, r1, r2, ⟨row', r3, r4⟩, r5⟩
      · exact .inl j5
      · refine .inr ⟨b, 0, _, row', false, row'.take ((hs.set i ⟨hs[i].ord, hs[i].art, y⟩).length * 3), r1, r3, ?_, ?_, ?_⟩
        · rw [List.length_take]; omega
        · rw [List.drop_zero, List.length_take, List.take_eq_take_iff]; omega
        · have := r4.take (hs.set i ⟨hs[i].ord, hs[i].art, y⟩).length
          rw [List.take_left] at this
          exact this
    exact hfin H8 _ _ j4 (fun q row e1 ro hq hne _ => j6 _ _ _ _ hq hne) (j6 _ _ _ _ (hE6.get_of f3') (by decide)) hsle (by rw [List.length_set]; omega)
theorem reserve_ok {k : Nat} {vC vH p1 : Value} {cs : List ConeD} {hs : List HoldD} {h : HoldD} {H : GH} (hk : 5000 ≤ k) (hS : StI H vC vH cs hs) (hl : hs.length ≤ 1000) (hcl : cs.length ≤ 1000) (hp : SlR tyHo H p1 [h]) :
    All (C (k + 6) (.func (.func 36) #[] #[]) [stV vC vH, p1] H) (Ans H fun e n => (chk cs hs ≠ 0 → e = chk cs hs ∧ n = 0) ∧ (chk cs hs = 0 → (e = 1 ↔ holdOk h = false))) := by
  rw [C_func T36, f36_eq]
  unfold f36_sh
  have hcl' : (Value.cells (stV vC vH)).toList = [vC, vH] := rfl
  rw [hcl']
  have hn1 : (H.push (.row [vC, vH] 88 false)).n = H.n + 1 := rfl
  rw [hn1]
  have hE : Ext H ((H.push (.row [vC, vH] 88 false)).push (.row [(.slice none 0 0), (.slice none 0 0)] 88 false)) := (Ext.push _ _).push' _
  have g0 : ((H.push (.row [vC, vH] 88 false)).push (.row [(.slice none 0 0), (.slice none 0 0)] 88 false)).get H.n = some (.row [vC, vH] 88 false) := (GH.get_push_old (Nat.lt_succ_self _)).trans GH.get_push_new
  have g1 : ((H.push (.row [vC, vH] 88 false)).push (.row [(.slice none 0 0), (.slice none 0 0)] 88 false)).get (H.n + 1) = some (.row [(.slice none 0 0), (.slice none 0 0)] 88 false) := GH.get_push_new
  have h1 := hS.mono hE
  revert hE g0 g1 h1
  generalize (H.push (.row [vC, vH] 88 false)).push (.row [(.slice none 0 0), (.slice none 0 0)] 88 false) = H1
  intro hE g0 g1 h1
  simp only [st_ld (PtC.of g0), onV_s]
  refine All.call0 (check_ok hk h1 hl hcl) fun v H2 hv => ?_
  obtain ⟨hE2, hv⟩ := hv
  have hE2 : Ext H1 H2 := hE2
  have hv : v = .int .i64 (chk cs hs) := hv
  subst hv
  have hnil : ((.agg #[(.slice none 0 0), (.slice none 0 0)]) : Value) = stV (.slice none 0 0) (.slice none 0 0) := rfl
  simp only [bin_neq, onV_s, asB_b, onBool_d, hnil]
  by_cases he : chk cs hs = 0
  · rw [if_neg (fun h => h he)]
    refine All.callE (contains_ok (k := k + 3) (by omega) (pr := fun x => !holdOk x) (Inv := fun _ => True) (fun x H' _ => bad_ok (k := k)) (fun _ _ _ _ => trivial) (hp.mono (hE.trans hE2)) (by simp) trivial) fun w H3 hw => ?_
    obtain ⟨hE3, hw⟩ := hw
    have hE3 : Ext H2 H3 := hE3
    have hw : w = .bool ([h].any fun x => !holdOk x) := hw
    rw [show ([h].any fun x => !holdOk x) = !holdOk h by simp] at hw
    subst hw
    have hE13 := hE2.trans hE3
    simp only [asB_b, onBool_i]
    cases hok : holdOk h with
    | false =>
      simp only [Bool.not_false, if_true]
      exact err2 (show H.n ≤ H.n + 1 by omega) (hE.trans hE13) (hE13.get_of g1) rfl ⟨fun h => absurd he h, fun _ => by simp⟩
    | true =>
      simp only [Bool.not_true, Bool.false_eq_true, if_false, st_ld (PtC.of (hE13.get_of g0)), onV_s]
      have hc : ∀ e : Int, e ≠ 1 → ∀ n : Nat, (chk cs hs ≠ 0 → e = chk cs hs ∧ n = 0) ∧ (chk cs hs = 0 → (e = 1 ↔ true = false)) := fun e hne n => ⟨fun h => absurd he h, fun _ => ⟨fun h => absurd h hne, fun h => by cases h⟩⟩
      obtain ⟨q1, q2, q3, q4, q5⟩ := chk0 he
      refine All.call0 (missing_ok (k := k + 2) (by omega) (h1.mono hE13) he (hp.mono (hE.trans hE13)) hok) fun w H4 hw => ?_
      obtain ⟨hE4, R, es, clock, hw, hget, hwf, hlen, hints⟩ := hw
      have hE4 : Ext H3 H4 := hE4
      have hw : w = .map (some R) := hw
      subst hw
      have hget : H4.get R = some (.map (mE TI es) clock) := hget
      have hE14 := hE13.trans hE4
      have hrg := map_range (T := TI) hget
      simp only [hrg, onVH_s]
      have hEp := Ext.push H4 (.mapIter (some R) clock [] clock)
      have hIR : H4.n ≠ R := by have := GH.get_lt hget; omega
      refine map_walk (T := TI) (I := H4.n) (R := R) (H0 := H4) hwf (Nat.le_refl _) hIR (fun _ => True) (sg := fun r G => f36_l7 (C (k + 5)) (k + 5) r p1 (.pointer (some ⟨H.n, 0, none⟩)) (.pointer (some ⟨H.n + 1, 0, none⟩)) (.pointer (some ⟨H4.n, 0, none⟩)) G) (stop := fun H2 => f36_r11 (C (k + 5)) (k + 5) p1 (.pointer (some ⟨H.n, 0, none⟩)) (.pointer (some ⟨H.n + 1, 0, none⟩)) H2)
        (go := fun v1 v4 H2 nx => onV (oExtract v4 1) fun v5 => onV ((oBin Try.prog .gtr 3 v5 (.int .i64 0)).filter closed) fun v6 => onBool (asB v6) (onH (gStore Try.prog 88 (.pointer (some ⟨H.n + 1, 0, none⟩)) (.agg #[(.slice none 0 0), (.slice none 0 0)]) H2) fun H7 => onV (gResL Try.prog H7 [((.pointer (some ⟨H.n + 1, 0, none⟩)), some 88), ((.int .i64 18), none)]) fun v => some [(v, H7)]) nx)
        (fun r H => rfl) (fun e he H2 nx v1 hE5 hnx => ?_) (fun _ H2 hE5 => ?_) (k + 5) [] _ ?_ hEp GH.get_push_new ((GH.get_push_old (GH.get_lt hget)).trans hget) (fun _ _ _ => trivial)
      · obtain ⟨x, hx⟩ := hints e he
        have hxe : oExtract (.tuple #[TI.kv e.k, e.v]) 1 = some (.int .i64 x) := by rw [hx]; rfl
        simp only [hxe, onV_s, bin_gtr, asB_b, onBool_d, hnil]
        split
        · exact err2 (show H.n ≤ H.n + 1 by omega) ((hE.trans hE14).trans hE5) (hE5.get_of (hE14.get_of g1)) rfl (hc 18 (by decide) 0)
        · exact hnx trivial
      · have hE15 := hE14.trans hE5
        exact rv_11 hk (h1.mono hE15) q2 hcl (hE.trans hE15) (show H.n ≤ H.n + 1 by omega) (hE15.get_of g1) rfl (hE15.get_of g0) (hp.mono (hE.trans hE15)) (hc 3 (by decide)) (hc 9 (by decide)) (hc 0 (by decide))
      · exact Nat.lt_of_le_of_lt (List.length_filter_le _ _) (by omega)
  · rw [if_pos he]
    exact err2 (show H.n ≤ H.n + 1 by omega) (hE.trans hE2) (hE2.get_of g1) rfl ⟨fun _ => ⟨rfl, rfl⟩, fun h => absurd h he⟩
end
end Go.Proofs.Ythicilkmjamefaa
