/- The program's copies of loops, and Order. -/
import Derived.Test.YthicilkmjamefaaLoK
import Derived.Test.YthicilkmjamefaaShL26
namespace Go.Proofs.Ythicilkmjamefaa
open Go.Gh
set_option linter.unusedVariables false
set_option linter.unusedSimpArgs false

/-- A loop whose lists lie in rows that bear their types. -/
def tyLpE : Ty LoopD where
  sz := 4
  rep H cs x := ∃ vT vP, cs = [.int .u8 x.bed, .bool x.new, vT, vP] ∧ SlE tyId 29 H vT x.thr ∧ SlE tyPa 157 H vP x.past
  len h := by obtain ⟨vT, vP, rfl, _⟩ := h; rfl
  one h := by
    obtain ⟨vT, vP, rfl, h1, h2⟩ := h
    obtain ⟨a, c, rfl⟩ := h1.val
    obtain ⟨a', c', rfl⟩ := h2.val
    rfl
  mono hE h := by obtain ⟨vT, vP, h0, h1, h2⟩ := h; exact ⟨vT, vP, h0, h1.mono hE, h2.mono hE⟩
theorem gets_lpE : tyLpE.Gets := fun H H' cs x hg ⟨vT, vP, h0, h1, h2⟩ => ⟨vT, vP, h0, h1.gets gets_id hg, h2.gets gets_pa hg⟩
theorem lpE_lp {H : GH} {cs : List Value} {x : LoopD} (h : tyLpE.rep H cs x) : tyLp.rep H cs x := by
  obtain ⟨vT, vP, h0, h1, h2⟩ := h; exact ⟨vT, vP, h0, h1.slr, h2.slr⟩
/-- Where a row of another type is set. -/
theorem lpE_set {H : GH} {b e : Nat} {row row' : List Value} {ro ro' : Bool} {e' : Nat} (hb : H.get b = some (.row row e ro)) (h29 : e ≠ 29) (h157 : e ≠ 157) {cs : List Value} {x : LoopD} (h : tyLpE.rep H cs x) : tyLpE.rep (H.set b (.row row' e' ro')) cs x := by
  obtain ⟨vT, vP, h0, h1, h2⟩ := h
  refine ⟨vT, vP, h0, h1.keep flat_id fun c row2 ro2 hc => ?_, h2.keep flat_pa fun c row2 ro2 hc => ?_⟩
  · refine GH.get_set_other (fun he => ?_) (GH.get_lt hb)
    subst he; rw [hb] at hc; injection hc with hc; injection hc with _ hc _; exact h29 hc
  · refine GH.get_set_other (fun he => ?_) (GH.get_lt hb)
    subst he; rw [hb] at hc; injection hc with hc; injection hc with _ hc _; exact h157 hc
theorem fa62_2 {b : Nat} : oFieldAddr Try.prog 62 (.pointer (some ⟨b, 0, none⟩)) 2 = some (.pointer (some ⟨b, 2, none⟩)) := by kernel_rfl
theorem fa62_3 {b : Nat} : oFieldAddr Try.prog 62 (.pointer (some ⟨b, 0, none⟩)) 3 = some (.pointer (some ⟨b, 3, none⟩)) := by kernel_rfl
section
variable {k : Nat} {H : GH} {x : LoopD}
theorem copied_ok {cs : List Value} (hx : tyLp.rep H cs x) (hxt : x.thr.length ≤ 1000) (hxp : x.past.length ≤ 1000) : Ev (C (k + 2) (.func (.func 79) #[] #[]) [.agg cs.toArray] H) fun r => Ext H r.2 ∧ ∃ cs', r.1 = .agg cs'.toArray ∧ tyLpE.rep r.2 cs' x := by
  rw [C_func T79, f79_eq]
  unfold f79_sh
  obtain ⟨vT, vP, rfl, s1, s2⟩ := hx
  have hcs : (Value.cells (.agg [.int .u8 x.bed, .bool x.new, vT, vP].toArray)).toList = [.int .u8 x.bed, .bool x.new, vT, vP] := rfl
  rw [hcs]
  have hn : (H.push (.row [.int .u8 x.bed, .bool x.new, vT, vP] 62 false)).n = H.n + 1 := rfl
  rw [hn]
  have hE : Ext H ((H.push (.row [.int .u8 x.bed, .bool x.new, vT, vP] 62 false)).push (.row [(.int .u8 0), (.bool false), (.slice none 0 0), (.slice none 0 0)] 62 false)) := (Ext.push _ _).push' _
  have g0 : ((H.push (.row [.int .u8 x.bed, .bool x.new, vT, vP] 62 false)).push (.row [(.int .u8 0), (.bool false), (.slice none 0 0), (.slice none 0 0)] 62 false)).get H.n = some (.row [.int .u8 x.bed, .bool x.new, vT, vP] 62 false) := (GH.get_push_old (Nat.lt_succ_self _)).trans GH.get_push_new
  have g1 : ((H.push (.row [.int .u8 x.bed, .bool x.new, vT, vP] 62 false)).push (.row [(.int .u8 0), (.bool false), (.slice none 0 0), (.slice none 0 0)] 62 false)).get (H.n + 1) = some (.row [(.int .u8 0), (.bool false), (.slice none 0 0), (.slice none 0 0)] 62 false) := GH.get_push_new
  revert hE g0 g1
  generalize (H.push (.row [.int .u8 x.bed, .bool x.new, vT, vP] 62 false)).push (.row [(.int .u8 0), (.bool false), (.slice none 0 0), (.slice none 0 0)] 62 false) = H1
  intro hE g0 g1
  have l2 : ∀ H', Ext H1 H' → gLoad Try.prog 26 (.pointer (some ⟨H.n, 2, none⟩)) H' = some vT := fun H' hE' => PtC.load1 (P := Try.prog) (t := 26) ⟨H.n, 2, _, _, _, rfl, hE'.get_of g0, by simp, rfl⟩ ld26
  have l3 : ∀ H', Ext H1 H' → gLoad Try.prog 60 (.pointer (some ⟨H.n, 3, none⟩)) H' = some vP := fun H' hE' => PtC.load1 (P := Try.prog) (t := 60) ⟨H.n, 3, _, _, _, rfl, hE'.get_of g0, by simp, rfl⟩ ld60
  unfold f79_r1
  simp only [fa62_2, fa62_3, onV_s, l2 _ (.refl _)]
  refine Ev.call 2 (R := fun v H' => Cl tyId 29 H1 H' v x.thr) (Sp.of (fun lo => cloneId_ok ((s1.mono hE).lo gets_id) (by omega)) fun v H' lo' h => h.lo gets_id) fun u H2 hE2 hu => ?_
  refine Ev.call 2 (R := fun v H' => Cl tyId 29 H1 H' v x.thr) (Sp.of (fun lo => (clipId_ok (k := k) (H := { H2 with lo := lo }) (hu.lo gets_id) (by omega)).mono fun z ⟨h1, h2⟩ => ⟨by rw [h1]; exact .refl _, by rw [h1]; exact h2⟩) fun v H' lo' h => h.lo gets_id) fun w H3 hE3 hw => ?_
  have hE13 := hE2.trans hE3
  simp only [l3 _ hE13, onV_s]
  refine Ev.call 2 (R := fun v H' => Cl tyPa 157 H1 H' v x.past) (Sp.of (fun lo => (clonePa_ok (((s2.mono hE).mono hE13).lo gets_pa) (by omega)).mono fun z ⟨h1, h2⟩ => ⟨h1, ?_⟩) fun v H' lo' h => h.lo gets_pa) fun u' H4 hE4 hu' => ?_
  · rcases h2 with h2 | ⟨b, c, cs, q1, q2, q3⟩
    · exact .inl h2
    · exact .inr ⟨b, c, cs, q1, Nat.le_trans hE13.n q2, q3⟩
  refine Ev.call 2 (R := fun v H' => Cl tyPa 157 H1 H' v x.past) (Sp.of (fun lo => (clipPa_ok (k := k) (H := { H4 with lo := lo }) (hu'.lo gets_pa) (by omega)).mono fun z ⟨h1, h2⟩ => ⟨by rw [h1]; exact .refl _, by rw [h1]; exact h2⟩) fun v H' lo' h => h.lo gets_pa) fun w' H5 hE5 hw' => ?_
  have hE15 := (hE13.trans hE4).trans hE5
  have sw := ((hw.ext hE4).ext hE5).sle
  have sw' := hw'.sle
  have k0 := hE15.get_of g0
  have k1 := hE15.get_of g1
  obtain ⟨aw, cw, ew⟩ := sw.val
  obtain ⟨aw', cw', ew'⟩ := sw'.val
  have o1 : w.cells.toList = [w] ∧ oneC w = true := by rw [ew]; exact ⟨rfl, rfl⟩
  have o2 : w'.cells.toList = [w'] ∧ oneC w' = true := by rw [ew']; exact ⟨rfl, rfl⟩
  have hb0 := GH.get_lt k0
  rw [store1 (t := 26) (o := 2) k0 (gSize_ld ld26) o1.1 o1.2 (by simp)]
  simp only [onH_s]
  have m0 := GH.get_set_same (o := .row ([Value.int .u8 x.bed, .bool x.new, vT, vP].set 2 w) 62 false) k0
  have m1 := (GH.get_set_other (o := .row ([Value.int .u8 x.bed, .bool x.new, vT, vP].set 2 w) 62 false) (show H.n ≠ H.n + 1 by omega) hb0).trans k1
  rw [store1 (t := 60) (o := 3) m0 (gSize_ld ld60) o2.1 o2.2 (by simp)]
  simp only [onH_s]
  have r0 := GH.get_set_same (o := .row (([Value.int .u8 x.bed, .bool x.new, vT, vP].set 2 w).set 3 w') 62 false) m0
  have r1 := (GH.get_set_other (o := .row (([Value.int .u8 x.bed, .bool x.new, vT, vP].set 2 w).set 3 w') 62 false) (show H.n ≠ H.n + 1 by omega) (GH.get_lt m0)).trans m1
  unfold f79_r2
  have hrow : ([Value.int .u8 x.bed, .bool x.new, vT, vP].set 2 w).set 3 w' = [.int .u8 x.bed, .bool x.new, w, w'] := rfl
  rw [hrow] at r0 r1 ⊢
  have hone : [Value.int .u8 x.bed, .bool x.new, w, w'].all oneC = true := by simp only [List.all_cons, List.all_nil, o1.2, o2.2, Bool.and_true]; rfl
  rw [(PtC.of r0).loadA (P := Try.prog) (t := 62) (by exact ld62)]
  simp only [onV_s]
  rw [storeAll (t := 62) (sz := 4) (cs := [Value.int .u8 x.bed, .bool x.new, w, w']) r1 (gSize_ld ld62) rfl rfl rfl hone]
  simp only [onH_s, gResL1]
  rw [(PtC.of (GH.get_set_same r1)).loadA (P := Try.prog) (t := 62) (by exact ld62)]
  have hEa : Ext H (H5.set H.n (.row ([Value.int .u8 x.bed, .bool x.new, vT, vP].set 2 w) 62 false)) := (hE.trans hE15).set (Nat.le_refl _) hb0 _
  refine Ev.mk ⟨((hEa.set (Nat.le_refl _) (GH.get_lt m0) _).set (Nat.le_succ _) (GH.get_lt r1) _), _, rfl, ?_⟩
  exact lpE_set r1 (by decide) (by decide) (lpE_set m0 (by decide) (by decide) (lpE_set k0 (by decide) (by decide) ⟨w, w', rfl, sw, sw'⟩))
end
section
variable {k : Nat} {v0 : Value} {t : Tab} {H : GH}
theorem chk_zero (h : chk t = 0) : t.length = 6 ∧ ¬ Bad t := by
  unfold chk at h
  split at h
  · omega
  · next h6 =>
    refine ⟨Classical.not_not.1 h6, fun hb => ?_⟩
    rw [if_pos hb] at h
    omega
theorem order_pub (hk : 6000 ≤ k) (hs : SlR tyTab H v0 t) (hmd : Med t) : All (C (k + 8) (.func (.func 24) #[] #[]) [v0] H) fun r => Ext H r.2 ∧ ∃ w, r.1 = .tuple #[w, .int .i64 (chk t)] := by
  rw [C_func T24, f24_eq]
  unfold f24_sh
  refine All.call0 (check_ok hk hs hmd) fun v1 H2 h => ?_
  obtain ⟨hE, hv⟩ := h
  have hE : Ext H H2 := hE
  have hv : v1 = .int .i64 (chk t) := hv
  subst hv
  simp only [bin_neq, onV_s, asB_b, onBool_d]
  by_cases h0 : chk t = 0
  · rw [if_neg (by omega)]
    obtain ⟨h6, hnb⟩ := chk_zero h0
    refine All.callE (order_ok (k := k + 2) (by omega) hnb hmd.row (fun l hl x hx => by have h1 := hmd.thr l hl x hx; have h2 := hmd.past l hl x hx; omega) h6 (hs.mono hE)) fun w H3 h => ?_
    obtain ⟨hE2, D, ids, hR, hS, hids, hc⟩ := h
    have hE2 : Ext H2 H3 := hE2
    have hc : Cl tyId 29 H2 H3 w ids := hc
    have hsum := hR.sum h6 hmd.row
    refine All.callE (clipId_ok (k := k + 6) hc (by omega)) fun w' H4 h => ?_
    obtain ⟨h1, h2⟩ := h
    have h1 : H4 = H3 := h1
    subst h1
    rw [h0]
    exact All.mk ⟨hE.trans hE2, _, rfl⟩
  · rw [if_pos h0]
    exact All.mk ⟨hE, _, rfl⟩
end
end Go.Proofs.Ythicilkmjamefaa
/- The program's Add: the new table, as it is filled. -/
namespace Go.Proofs.Ythicilkmjamefaa
open Go.Gh
set_option linter.unusedVariables false
set_option linter.unusedSimpArgs false

theorem get_tag {H : GH} {b e e' : Nat} {row row' : List Value} {ro ro' : Bool} {c : Nat} (h : H.get b = some (.row row e ro)) (h' : H.get c = some (.row row' e' ro')) (he : e ≠ e') : b ≠ c := by
  intro hb; subst hb; rw [h] at h'; injection h' with h'; injection h' with _ h' _; exact he h'
/-- The new table, as it is filled: its rows lie in blocks that ascend. -/
structure OutI (F : Nat → List LoopD) (H0 : GH) (b9 : Nat) (B N : Nat → Nat) (vs : List Value) (m : Nat) (H : GH) : Prop where
  ext : Ext H0 H
  g9 : H.get b9 = some (.row vs 59 false)
  b0 : H0.n ≤ b9
  len : vs.length = 6
  one : ∀ v ∈ vs, oneC v = true ∧ v.cells.toList = [v]
  row : ∀ j, j < m → ∀ v, vs[j]? = some v → Fix tyLpE 62 (N j) (B j) H v (F j) ∧ N j ≤ 20
  asc : ∀ i j, i < j → j < m → B i < B j
  lo : ∀ j, j < m → b9 < B j
def upd {α : Type} (f : Nat → α) (j : Nat) (x : α) : Nat → α := fun i => if i = j then x else f i
theorem upd_at {α : Type} (f : Nat → α) (j : Nat) (x : α) : upd f j x j = x := by unfold upd; rw [if_pos rfl]
theorem upd_ne {α : Type} (f : Nat → α) {i j : Nat} (x : α) (h : i ≠ j) : upd f j x i = f i := by unfold upd; rw [if_neg h]
section
variable {F : Nat → List LoopD} {H0 H H' : GH} {b9 m : Nat} {B N : Nat → Nat} {vs : List Value}
theorem OutI.mono (h : OutI F H0 b9 B N vs m H) (hE : Ext H H') : OutI F H0 b9 B N vs m H' :=
  ⟨h.ext.trans hE, hE.get_of h.g9, h.b0, h.len, h.one, fun j hj v hv => ⟨(h.row j hj v hv).1.ext hE, (h.row j hj v hv).2⟩, h.asc, h.lo⟩
theorem slice_one {v : Value} {a : Option Addr} {n c : Nat} (h : v = .slice a n c) : oneC v = true ∧ v.cells.toList = [v] := by subst h; exact ⟨rfl, rfl⟩
theorem Fix.tag {v : Value} {b n : Nat} {l : List LoopD} (h : Fix tyLpE 62 n b H v l) : ∃ row, H.get b = some (.row row 62 false) := by
  obtain ⟨row, cs, h1, _⟩ := h.ex
  exact ⟨row, h1⟩
/-- A row that stands, where the table's own row is set. -/
theorem Fix.past9 {v : Value} {b n : Nat} {l : List LoopD} {row9 row9' : List Value} (h : Fix tyLpE 62 n b H v l) (h9 : H.get b9 = some (.row row9 59 false)) : Fix tyLpE 62 n b (H.set b9 (.row row9' 59 false)) v l := by
  obtain ⟨row, hr⟩ := Fix.tag h
  exact h.keep (GH.get_set_other (get_tag h9 hr (by decide)) (GH.get_lt h9)) fun cs x hx => lpE_set h9 (by decide) (by decide) hx
theorem out_ix {y : Nat} (hy : y < 6) {k : IntKind} : oIndexAddr Try.prog 58 (.slice (some ⟨b9, 0, none⟩) 6 6) (.int k y) = some (.pointer (some ⟨b9, y, none⟩)) := by
  have hgs : gSize Try.prog 59 = some 1 := (ldOk_spec ld59).2.2
  unfold oIndexAddr
  simp only [u58]
  rw [if_pos ⟨by omega, by omega⟩, hgs]
  simp only [Option.map_some, Int.toNat_natCast, Nat.mul_one]
  unfold Addr.add
  by_cases h0 : y = 0
  · simp [h0]
  · simp [h0]
theorem out_ld {H : GH} {vs : List Value} (h : H.get b9 = some (.row vs 59 false)) {y : Nat} {v : Value} (hv : vs[y]? = some v) : gLoad Try.prog 59 (.pointer (some ⟨b9, y, none⟩)) H = some v := by
  have hlt := (List.getElem?_eq_some_iff.1 hv).1
  refine PtC.load1 (P := Try.prog) (t := 59) ⟨b9, y, _, _, _, rfl, h, by simp only [List.length_cons, List.length_nil]; omega, ?_⟩ ld59
  rw [List.length_singleton, List.drop_eq_getElem_cons hlt, List.take_succ_cons, List.take_zero, (List.getElem?_eq_some_iff.1 hv).2]
theorem one_set {vs : List Value} (h : ∀ v ∈ vs, oneC v = true ∧ v.cells.toList = [v]) {v : Value} (hv : oneC v = true ∧ v.cells.toList = [v]) (j : Nat) : ∀ u ∈ vs.set j v, oneC u = true ∧ u.cells.toList = [u] := by
  intro u hu
  rcases List.mem_or_eq_of_mem_set hu with hu | hu
  · exact h u hu
  · rw [hu]; exact hv
theorem build59_1 {H : GH} {a b c d : Value} : gBuildSlice Try.prog 59 1 [(0, .agg #[a, b, c, d])] H = some (.slice (some ⟨H.n, 0, none⟩) 1 1, H.push (.row [a, b, c, d] 62 false)) := by kernel_rfl
/-- One more loop in a row. -/
theorem OutI.step (h : OutI F H0 b9 B N vs m H) {j : Nat} (hj : j < m) (hj6 : j < 6) (hroom : (F j).length < N j) {cs : List Value} {x : LoopD} (hx : tyLpE.rep H cs x) :
    ∃ v v8 H9 H11, vs[j]? = some v ∧ gAppend Try.prog 59 59 v (.slice (some ⟨H.n, 0, none⟩) 1 1) (H.push (.row cs 62 false)) = some (v8, H9) ∧ gStore Try.prog 59 (.pointer (some ⟨b9, j, none⟩)) v8 H9 = some H11 ∧ OutI (upd F j (F j ++ [x])) H0 b9 B N (vs.set j v8) m H11 := by
  have hlen := h.len
  have hvj : vs[j]? = some vs[j] := List.getElem?_eq_getElem (by omega)
  have hE1 := Ext.push H (.row cs 62 false)
  have h1 := h.mono hE1
  obtain ⟨hf, hN⟩ := h1.row j hj _ hvj
  obtain ⟨rowj, hrj⟩ := Fix.tag hf
  have hx1 := tyLpE.mono hE1 hx
  have hcl := tyLpE.len hx
  have hfst : gFirst tyLpE.sz 1 (.slice (some ⟨H.n, 0, none⟩) 1 1) (H.push (.row cs 62 false)) = some cs := by
    unfold gFirst
    simp only [GH.get_push_new]
    have h4 : cs.length = tyLpE.sz := hcl
    rw [if_pos (by omega), List.drop_zero, List.take_of_length_le (by omega)]
  obtain ⟨row', g1, g2⟩ := hf.append (P := Try.prog) (st := 59) (xt := 59) (ys := [x]) (y := .slice (some ⟨H.n, 0, none⟩) 1 1) u59 u59 el62 (by omega) ⟨_, _, rfl⟩ hfst (.one1 hx1) (by simp) (by simp only [List.length_singleton]; omega) (fun row' cs' x' hx' => lpE_set hrj (by decide) (by decide) hx')
  have hb := GH.get_lt hrj
  have h9 := h1.lo j hj
  have k9 := (GH.get_set_other (o := .row row' 62 false) (show B j ≠ b9 by omega) hb).trans h1.g9
  refine ⟨_, _, _, _, hvj, g1, store1 k9 (gSize_ld ld59) rfl rfl (by omega), (h1.ext.set (by have := h1.b0; omega) hb _).set h1.b0 (GH.get_lt k9) _, GH.get_set_same k9, h1.b0, by rw [List.length_set]; exact hlen, one_set h1.one ⟨rfl, rfl⟩ j, fun i hi v hv => ?_, h1.asc, h1.lo⟩
  by_cases hij : i = j
  · subst hij
    rw [List.getElem?_set_self (by omega)] at hv
    have hv := Option.some.inj hv
    subst hv
    rw [upd_at]
    exact ⟨Fix.past9 g2 k9, hN⟩
  · rw [List.getElem?_set_ne (Ne.symm hij)] at hv
    rw [upd_ne _ _ hij]
    obtain ⟨hfi, hNi⟩ := h1.row i hi v hv
    have hBne : B j ≠ B i := by
      rcases Nat.lt_or_gt_of_ne hij with h' | h'
      · have := h1.asc i j h' hj; omega
      · have := h1.asc j i h' hi; omega
    exact ⟨Fix.past9 (hfi.keep (GH.get_set_other hBne hb) fun cs x hx => lpE_set hrj (by decide) (by decide) hx) k9, hNi⟩
/-- A new row. -/
theorem OutI.row0 (h : OutI F H0 b9 B N vs m H) (hm : m < 6) {n : Nat} (hn : n ≤ 20) :
    ∃ v6 H7 H9, gMakeSlice Try.prog 59 (.int .i64 0) (.int .i64 n) H = some (v6, H7) ∧ gStore Try.prog 59 (.pointer (some ⟨b9, m, none⟩)) v6 H7 = some H9 ∧ OutI (upd F m []) H0 b9 (upd B m H.n) (upd N m n) (vs.set m v6) (m + 1) H9 := by
  have hlen := h.len
  obtain ⟨row, g1, g2⟩ := Fix.make (A := tyLpE) (P := Try.prog) (H := H) (N := n) (st := 59) u59 el62 (by omega) (k := .i64) (k' := .i64)
  have hE1 := Ext.push H (.row row 62 false)
  have h1 := h.mono hE1
  have hb := GH.get_lt h1.g9
  have hb9 := GH.get_lt h.g9
  refine ⟨_, _, _, g1, store1 h1.g9 (gSize_ld ld59) rfl rfl (by omega), h1.ext.set h1.b0 hb _, GH.get_set_same h1.g9, h1.b0, by rw [List.length_set]; exact hlen, one_set h1.one ⟨rfl, rfl⟩ m, fun i hi v hv => ?_, fun i j hij hj => ?_, fun j hj => ?_⟩
  · by_cases him : i = m
    · subst him
      rw [List.getElem?_set_self (by omega)] at hv
      have hv := Option.some.inj hv
      subst hv
      rw [upd_at, upd_at, upd_at]
      exact ⟨Fix.past9 g2 h1.g9, hn⟩
    · rw [List.getElem?_set_ne (Ne.symm him)] at hv
      rw [upd_ne _ _ him, upd_ne _ _ him, upd_ne _ _ him]
      obtain ⟨hfi, hNi⟩ := h1.row i (by omega) v hv
      exact ⟨Fix.past9 hfi h1.g9, hNi⟩
  · have hlt : ∀ i, i < m → B i < H.n := fun i hi => (h.row i hi _ (List.getElem?_eq_getElem (by omega))).1.lt
    by_cases hjm : j = m
    · subst hjm
      rw [upd_at, upd_ne _ _ (by omega)]
      exact hlt i (by omega)
    · rw [upd_ne _ _ hjm, upd_ne _ _ (by omega)]
      exact h.asc i j hij (by omega)
  · by_cases hjm : j = m
    · subst hjm; rw [upd_at]; exact hb9
    · rw [upd_ne _ _ hjm]; exact h.lo j (by omega)
end
section
variable {k k' : Nat} {v0 : Value} {t : Tab} {H0 H : GH} {Q : Value × GH → Prop} {b9 : Nat} {B N : Nat → Nat} {vs : List Value} {F : Nat → List LoopD} {x1 x5 : Value}
/-- The loops of one yarn are copied. -/
theorem ad_l12 (hk : 10 ≤ k) {y : Nat} (hy : y < 6) {old : List LoopD} {lv : Value} (hlv : SlR tyLp H0 lv old) (hlen : old.length ≤ 13) (hsz : ∀ x ∈ old, x.thr.length ≤ 1000 ∧ x.past.length ≤ 1000)
    {sg8 : Value → Value → Value → Value → Value → Value → GH → M (Value × GH)} (hgo : ∀ vs' F' H', F' y = old → (∀ i, i ≠ y → F' i = F i) → OutI F' H0 b9 B N vs' (y + 1) H' → All (sg8 x1 x5 (.slice (some ⟨b9, 0, none⟩) 6 6) v0 (.int .i64 (6 : Nat)) (.int .i64 (y + 1 : Nat)) H') Q) (hN : N y = old.length + 1) :
    ∀ (r n : Nat) (vs : List Value) (F' : Nat → List LoopD) (H : GH), n ≤ old.length → old.length - n < r → F' y = old.take n → (∀ i, i ≠ y → F' i = F i) → OutI F' H0 b9 B N vs (y + 1) H →
      All (f26_l12 (C k) k' sg8 r x1 x5 (.slice (some ⟨b9, 0, none⟩) 6 6) (.int .i64 y) v0 (.int .i64 (6 : Nat)) (.int .i64 y) lv (.int .i64 old.length) (.int .i64 n) H) Q := by
  intro r
  induction r with
  | zero => intro n vs F' H _ h; omega
  | succ r ih =>
    intro n vs F' H hn hr hFy hF hI
    show All (f26_l12b (C k) k' sg8 (f26_l12 (C k) k' sg8 r) x1 x5 (.slice (some ⟨b9, 0, none⟩) 6 6) (.int .i64 y) v0 (.int .i64 (6 : Nat)) (.int .i64 y) lv (.int .i64 old.length) (.int .i64 n) H) Q
    unfold f26_l12b
    simp only [bin_lss, onV_s, asB_b, onBool_d]
    by_cases hlt : n < old.length
    · rw [if_pos (by omega)]
      obtain ⟨q, g1, g2⟩ := lp_at (hlv.mono hI.ext) (k := .i64) hlt
      obtain ⟨cs, g3, g4, g5, g6⟩ := lp_ld g2
      obtain ⟨H1, f1, f2, f3, f4⟩ := box (P := Try.prog) (t := 62) (H := H) (v := .agg cs.toArray) (cs := cs) (row := [(.int .u8 0), (.bool false), (.slice none 0 0), (.slice none 0 0)]) (e := 62) (gSize_ld ld62) rfl g5 g6
      simp only [g1, g3, onV_s, f1, onH_s]
      have hI1 := hI.mono f2
      have hp : LpAt H1 (.pointer (some ⟨H.n, 0, none⟩)) old[n] := ⟨cs, PtC.of f3, tyLp.mono f2 g4⟩
      clear f1 f3 f4
      revert hp
      generalize (.pointer (some ⟨H.n, 0, none⟩) : Value) = p13
      intro hp
      obtain ⟨cs', k1, k2, k3, k4⟩ := lp_ld hp
      obtain ⟨hz1, hz2⟩ := hsz _ (List.getElem_mem hlt)
      have hlen6 := hI1.len
      have hvy : vs[y]? = some vs[y] := List.getElem?_eq_getElem (by omega)
      unfold f26_r14
      obtain ⟨k2', rfl⟩ : ∃ k2, k = k2 + 2 := ⟨k - 2, by omega⟩
      simp only [out_ix hy, onV_s, out_ld hI1.g9 hvy, k1]
      refine All.callS 2 (R := fun u H' => ∃ cs', u = .agg cs'.toArray ∧ tyLpE.rep H' cs' old[n]) (Sp.of (fun lo => copied_ok (gets_lp H1 { H1 with lo := lo } _ _ (fun _ => rfl) k2) hz1 hz2) fun u H' lo' ⟨cs', h1, h2⟩ => ⟨cs', h1, gets_lpE H' { H' with lo := lo' } _ _ (fun _ => rfl) h2⟩) fun u H2 hE2 hu => ?_
      obtain ⟨cs2, rfl, hx2⟩ := hu
      have hI2 := hI1.mono hE2
      obtain ⟨c0, c1, c2, c3, rfl⟩ := list4 (tyLpE.len hx2)
      obtain ⟨v, v8, H9, H11, e1, e2, e3, e4⟩ := hI2.step (j := y) (by omega) hy (by rw [hFy, hN, List.length_take]; omega) hx2
      rw [hvy] at e1
      have e1 := Option.some.inj e1
      subst e1
      simp only [build59_1, onVH_s, e2, e3, onH_s, bin_add, onV_s]
      rw [wrS (by omega)]
      refine ih (n + 1) _ _ H11 (by omega) (by omega) ?_ (fun i hi => by rw [upd_ne _ _ hi]; exact hF i hi) e4
      rw [upd_at, hFy, List.take_succ_eq_append_getElem hlt]
    · rw [if_neg (by omega)]
      simp only [bin_add, onV_s]
      rw [wrS (by omega)]
      refine hgo vs F' H ?_ hF hI
      rw [hFy, List.take_of_length_le (by omega)]
/-- All yarns are copied. -/
theorem ad_l8 (hk : 10 ≤ k) (hk' : 100 ≤ k') (hs : SlR tyTab H0 v0 t) (hmd : Med t) (ht : t.length = 6)
    (hgo : ∀ vs F B N H', (∀ i l, t[i]? = some l → F i = l ∧ N i = l.length + 1) → OutI F H0 b9 B N vs 6 H' → All (f26_r17 (C k) k' x1 x5 (.slice (some ⟨b9, 0, none⟩) 6 6) H') Q) :
    ∀ (r y : Nat) (vs : List Value) (F : Nat → List LoopD) (B N : Nat → Nat) (H : GH), y ≤ 6 → 6 - y < r → (∀ i l, i < y → t[i]? = some l → F i = l ∧ N i = l.length + 1) → OutI F H0 b9 B N vs y H →
      All (f26_l8 (C k) k' r x1 x5 (.slice (some ⟨b9, 0, none⟩) 6 6) v0 (.int .i64 (6 : Nat)) (.int .i64 y) H) Q := by
  intro r
  induction r with
  | zero => intro y vs F B N H _ h; omega
  | succ r ih =>
    intro y vs F B N H hy hr hF hI
    show All (f26_l8b (C k) k' (f26_l8 (C k) k' r) x1 x5 (.slice (some ⟨b9, 0, none⟩) 6 6) v0 (.int .i64 (6 : Nat)) (.int .i64 y) H) Q
    unfold f26_l8b
    simp only [bin_lss, onV_s, asB_b, onBool_d]
    by_cases hlt : y < 6
    · rw [if_pos (by omega)]
      have hyt : y < t.length := by omega
      obtain ⟨p, lv, e1, e2, e3⟩ := tb_at0 hs hI.ext (kk := .i64) hyt
      have hmem := List.getElem_mem hyt
      have h13 := hmd.row _ hmem
      simp only [e1, e2, onV_s, (e3.mono hI.ext).oLen u59, bin_add]
      rw [wrS (by omega)]
      obtain ⟨v6, H7, H9, g1, g2, g3⟩ := hI.row0 hlt (n := t[y].length + 1) (by omega)
      have hE9 := g3.ext
      simp only [g1, onVH_s, out_ix hlt, onV_s, g2, onH_s]
      refine ad_l12 hk hlt e3 h13 (fun x hx => by have h1 := hmd.thr _ hmem x hx; have h2 := hmd.past _ hmem x hx; omega) (fun vs' F' H' h1 h2 h3 => ih (y + 1) vs' F' _ _ H' (by omega) (by omega) (fun i l hi hl => ?_) h3) (upd_at _ _ _) k' 0 _ (upd F y []) H9 (by omega) (by omega) (by rw [upd_at]; rfl) (fun i hi => rfl) g3
      by_cases hiy : i = y
      · subst hiy
        rw [List.getElem?_eq_getElem hyt] at hl
        have hl := Option.some.inj hl
        rw [h1, upd_at, ← hl]
        exact ⟨rfl, rfl⟩
      · rw [h2 i hiy, upd_ne _ _ hiy, upd_ne _ _ hiy]
        exact hF i l (by omega) hl
    · rw [if_neg (by omega)]
      have h6 : y = 6 := by omega
      subst h6
      exact hgo vs F B N H (fun i l hl => hF i l (by have := (List.getElem?_eq_some_iff.1 hl).1; omega) hl) hI
end
end Go.Proofs.Ythicilkmjamefaa
/- The program's Add: what its errors are. -/
namespace Go.Proofs.Ythicilkmjamefaa
open Go.Gh
set_option linter.unusedVariables false
set_option linter.unusedSimpArgs false

/-- The new table, filled. -/
structure OutC (F : Nat → List LoopD) (H0 : GH) (b9 : Nat) (vs : List Value) (H : GH) : Prop where
  ext : Ext H0 H
  g9 : H.get b9 = some (.row vs 59 false)
  b0 : H0.n ≤ b9
  len : vs.length = 6
  one : ∀ v ∈ vs, oneC v = true ∧ v.cells.toList = [v]
  row : ∀ j, j < 6 → ∀ v, vs[j]? = some v → ∃ b row cs c, v = .slice (some ⟨b, 0, none⟩) (F j).length c ∧ H.get b = some (.row row 62 false) ∧ CellsR tyLpE H cs (F j) ∧ cs.length ≤ row.length ∧ row.take cs.length = cs ∧ (F j).length ≤ c ∧ c ≤ 20
section
variable {F : Nat → List LoopD} {H0 H H' : GH} {b9 : Nat} {B N : Nat → Nat} {vs : List Value}
theorem OutI.done (h : OutI F H0 b9 B N vs 6 H) : OutC F H0 b9 vs H := by
  refine ⟨h.ext, h.g9, h.b0, h.len, h.one, fun j hj v hv => ?_⟩
  obtain ⟨⟨h1, ⟨row, cs, h2, h3, h4, h5⟩, h6⟩, h7⟩ := h.row j hj v hv
  refine ⟨B j, row, cs, N j, h1, h2, h4, ?_, h5, h6, h7⟩
  have := h4.length
  have := Nat.mul_le_mul_right tyLpE.sz h6
  omega
theorem OutC.mono (h : OutC F H0 b9 vs H) (hE : Ext H H') : OutC F H0 b9 vs H' :=
  ⟨h.ext.trans hE, hE.get_of h.g9, h.b0, h.len, h.one, fun j hj v hv => by
    obtain ⟨b, row, cs, c, h1, h2, h3, h4⟩ := h.row j hj v hv
    exact ⟨b, row, cs, c, h1, hE.get_of h2, h3.mono hE, h4⟩⟩
theorem OutC.clip (h : OutC F H0 b9 vs H) {j : Nat} (hj : j < 6) : ∃ v v', vs[j]? = some v ∧ oLen Try.prog 59 v = some (.int .i64 (F j).length) ∧ oSlice Try.prog 59 v none (some (.int .i64 (F j).length)) (some (.int .i64 (F j).length)) = some v' ∧
    ∃ H', gStore Try.prog 59 (.pointer (some ⟨b9, j, none⟩)) v' H = some H' ∧ OutC F H0 b9 (vs.set j v') H' := by
  have hlen := h.len
  have hvj : vs[j]? = some vs[j] := List.getElem?_eq_getElem (by omega)
  obtain ⟨b, row, cs, c, h1, h2, h3, h4, h5, h6, h7⟩ := h.row j hj _ hvj
  have hc := clip_val (P := Try.prog) (A := tyLpE) (t := 59) (a := some ⟨b, 0, none⟩) (n := (F j).length) (c := c) u59 (elemOk_size el62) (fun h => by cases h) (fun _ => .inr ⟨by unfold loose; omega, h6⟩) (k := .i64) (k' := .i64)
  rw [h1] at hvj
  simp only [reduceCtorEq, if_false] at hc
  have hb9 := GH.get_lt h.g9
  refine ⟨_, _, hvj, ?_, hc, _, store1 h.g9 (gSize_ld ld59) rfl rfl (by omega), h.ext.set h.b0 hb9 _, GH.get_set_same h.g9, h.b0, by rw [List.length_set]; exact hlen, one_set h.one ⟨rfl, rfl⟩ j, fun i hi v hv => ?_⟩
  · unfold oLen; rw [u59]
  · by_cases hij : i = j
    · subst hij
      rw [List.getElem?_set_self (by omega)] at hv
      have hv := Option.some.inj hv
      exact ⟨b, row, cs, _, hv.symm, (GH.get_set_other (get_tag h.g9 h2 (by decide)) hb9).trans h2, h3.keep fun cs x hx => lpE_set h.g9 (by decide) (by decide) hx, h4, h5, Nat.le_refl _, by omega⟩
    · rw [List.getElem?_set_ne (Ne.symm hij)] at hv
      obtain ⟨b2, row2, cs2, c2, k1, k2, k3, k4⟩ := h.row i hi v hv
      exact ⟨b2, row2, cs2, c2, k1, (GH.get_set_other (get_tag h.g9 k2 (by decide)) hb9).trans k2, k3.keep fun cs x hx => lpE_set h.g9 (by decide) (by decide) hx, k4⟩
theorem cells_lp {cs : List Value} {l : List LoopD} (h : CellsR tyLpE H cs l) : CellsR tyLp H cs l := by
  induction h with
  | nil => exact .nil
  | cons h t ih => exact .cons (lpE_lp h) ih
theorem OutC.tab (h : OutC F H0 b9 vs H) : SlR tyTab H (.slice (some ⟨b9, 0, none⟩) 6 6) [F 0, F 1, F 2, F 3, F 4, F 5] := by
  have hlen := h.len
  have hrow := h.row
  obtain ⟨a, b, c, d, e, f, rfl⟩ := list6 hlen
  have key : ∀ j, j < 6 → ∀ v, [a, b, c, d, e, f][j]? = some v → tyTab.rep H [v] (F j) := fun j hj v hv => by
    obtain ⟨b, row, cs, c, h1, h2, h3, h4, h5, _⟩ := hrow j hj v hv
    exact ⟨v, rfl, .inr ⟨b, 0, c, row, 62, false, cs, h1, h2, by omega, by rw [List.drop_zero]; exact h5, cells_lp h3⟩⟩
  refine .inr ⟨b9, 0, 6, _, 59, false, [a, b, c, d, e, f], rfl, h.g9, by simp, rfl, ?_⟩
  exact .cons (c := [a]) (key 0 (by omega) a rfl) (.cons (c := [b]) (key 1 (by omega) b rfl) (.cons (c := [c]) (key 2 (by omega) c rfl) (.cons (c := [d]) (key 3 (by omega) d rfl) (.cons (c := [e]) (key 4 (by omega) e rfl) (.cons (c := [f]) (key 5 (by omega) f rfl) .nil)))))
end
section
variable {k k' : Nat} {v0 : Value} {t : Tab} {H0 H : GH} {Q : Value × GH → Prop} {b9 : Nat} {vs : List Value} {F : Nat → List LoopD}
theorem clipRow_ok {v v' : Value} {n : Nat} (h1 : oLen Try.prog 59 v = some (.int .i64 n)) (h2 : oSlice Try.prog 59 v none (some (.int .i64 n)) (some (.int .i64 n)) = some v') : Ev (C (k + 1) (.func (.func 80) #[] #[]) [v] H) fun r => r = (v', H) := by
  rw [C_func T80, f80_eq]
  unfold f80_sh
  simp only [h1, onV_s, h2]
  exact Ev.mk rfl
theorem ad_l19 (hgo : ∀ vs' H', OutC F H0 b9 vs' H' → All (f26_r23 (C (k + 1)) k' (.slice (some ⟨b9, 0, none⟩) 6 6) H') Q) :
    ∀ (r y : Nat) (vs : List Value) (H : GH), y ≤ 6 → 6 - y < r → OutC F H0 b9 vs H → All (f26_l19 (C (k + 1)) k' r (.slice (some ⟨b9, 0, none⟩) 6 6) (.int .i64 (6 : Nat)) (.int .i64 y) H) Q := by
  intro r
  induction r with
  | zero => intro y vs H _ h; omega
  | succ r ih =>
    intro y vs H hy hr hI
    show All (f26_l19b (C (k + 1)) k' (f26_l19 (C (k + 1)) k' r) (.slice (some ⟨b9, 0, none⟩) 6 6) (.int .i64 (6 : Nat)) (.int .i64 y) H) Q
    unfold f26_l19b
    simp only [bin_lss, onV_s, asB_b, onBool_d]
    by_cases hlt : y < 6
    · rw [if_pos (by omega)]
      obtain ⟨v, v', h1, h2, h3, H', h4, h5⟩ := hI.clip hlt
      simp only [out_ix hlt, onV_s, out_ld hI.g9 h1]
      refine All.callE (clipRow_ok h2 h3) fun w H2 hw => ?_
      injection hw with hw hH
      subst hw; subst hH
      simp only [h4, onH_s, bin_add, onV_s]
      rw [wrS (by omega)]
      exact ih (y + 1) _ H' (by omega) (by omega) h5
    · rw [if_neg (by omega)]
      exact hgo vs H hI
/-- The value of a loop without names. -/
def bareV (bd : Int) (nw : Bool) : Value := .agg #[.int .u8 bd, .bool nw, .slice none 0 0, .slice none 0 0]
/-- The errors of Add: of the table; of the yarn; of a loop that is not right. -/
theorem add_ok (hk : 6000 ≤ k) (hs : SlR tyTab H v0 t) (hsm : Small t) {yn bd : Int} {nw : Bool} (hy : 0 ≤ yn ∧ yn ≤ 255) (hc : chk t = 0 → (yn < 1 ∨ 6 < yn) ∨ (yn = 3 ∧ 1 < bd)) :
    All (C (k + 9) (.func (.func 26) #[] #[]) [v0, .int .u8 yn, bareV bd nw] H) fun r => Ext H r.2 ∧ r.1 = .tuple #[.slice none 0 0, .int .i64 (if chk t = 0 then 1 else chk t)] := by
  rw [C_func T26, f26_eq]
  unfold f26_sh
  have hcl : (Value.cells (bareV bd nw)).toList = [.int .u8 bd, .bool nw, .slice none 0 0, .slice none 0 0] := rfl
  rw [hcl]
  have hE := Ext.push H (.row [.int .u8 bd, .bool nw, .slice none 0 0, .slice none 0 0] 62 false)
  have g5 : (H.push (.row [.int .u8 bd, .bool nw, .slice none 0 0, .slice none 0 0] 62 false)).get H.n = some (.row [.int .u8 bd, .bool nw, .slice none 0 0, .slice none 0 0] 62 false) := GH.get_push_new
  have hs := hs.mono hE
  revert hE g5 hs
  generalize H.push (.row [.int .u8 bd, .bool nw, .slice none 0 0, .slice none 0 0] 62 false) = H1
  intro hE g5 hs
  refine All.call0 (check_ok (k := k + 1) (by omega) hs hsm.med) fun v1 H2 h => ?_
  obtain ⟨hE2, hv⟩ := h
  have hE2 : Ext H1 H2 := hE2
  have hv : v1 = .int .i64 (chk t) := hv
  subst hv
  simp only [bin_neq, onV_s, asB_b, onBool_d]
  by_cases h0 : chk t = 0
  · rw [if_neg (by omega), if_pos h0]
    obtain ⟨h6, hnb⟩ := chk_zero h0
    simp only [bin_lss, onV_s]
    unfold f26_g4_3
    simp only [asB_b, onBool_d]
    rcases hc h0 with hyn | ⟨rfl, hbd⟩
    · by_cases h1 : yn < 1
      · rw [if_pos h1]
        exact All.mk ⟨hE.trans hE2, rfl⟩
      · rw [if_neg h1]
        simp only [bin_gtr, onV_s, asB_b, onBool_d]
        rw [if_pos (by omega)]
        exact All.mk ⟨hE.trans hE2, rfl⟩
    · rw [if_neg (by omega)]
      simp only [bin_gtr, onV_s, asB_b, onBool_d]
      rw [if_neg (by omega)]
      have hs2 := hs.mono hE2
      have hlen := hs2.oLen u58
      rw [h6] at hlen
      have hmk : gMakeSlice Try.prog 58 (.int .i64 (6 : Nat)) (.int .i64 (6 : Nat)) H2 = some (.slice (some ⟨H2.n, 0, none⟩) 6 6, H2.push (.row (List.replicate 6 (.slice none 0 0)) 59 false)) := by kernel_rfl
      simp only [hlen, onV_s, hmk, onVH_s]
      obtain ⟨a, b, c, d, e, f, rfl⟩ := list6 h6
      refine ad_l8 (k := k + 8) (H0 := H2) (b9 := H2.n) (by omega) (by omega) hs2 hsm.med h6 (fun vs F B N H' hF hI => ?_) (k + 8) 0 (List.replicate 6 (.slice none 0 0)) (fun _ => []) (fun _ => 0) (fun _ => 0) _ (by omega) (by omega) (fun i l hi => by omega)
        ⟨.push _ _, GH.get_push_new, Nat.le_refl _, by simp, fun v hv => by rw [List.eq_of_mem_replicate hv]; exact ⟨rfl, rfl⟩, fun j hj => by omega, fun i j _ hj => by omega, fun j hj => by omega⟩
      obtain ⟨f0, n0⟩ := hF 0 a rfl
      obtain ⟨f1, n1⟩ := hF 1 b rfl
      obtain ⟨f2, n2⟩ := hF 2 c rfl
      obtain ⟨f3, n3⟩ := hF 3 d rfl
      obtain ⟨f4, n4⟩ := hF 4 e rfl
      obtain ⟨f5, n5⟩ := hF 5 f rfl
      unfold f26_r17
      have hE1' := hE2.trans hI.ext
      have hlen6 := hI.len
      have hv2 : vs[2]? = some vs[2] := List.getElem?_eq_getElem (by omega)
      have hx5 : gLoad Try.prog 62 (.pointer (some ⟨H.n, 0, none⟩)) H' = some (.agg #[.int .u8 bd, .bool nw, .slice none 0 0, .slice none 0 0]) := (PtC.of (hE1'.get_of g5)).loadA ld62
      have hsub : IntKind.wrap .u8 ((3 : Int) - 1) = ((2 : Nat) : Int) := by decide
      simp only [bin_sub, onV_s, hsub, out_ix (b9 := H2.n) (y := 2) (by omega), out_ld hI.g9 hv2, hx5]
      have hx : ∀ H3 : GH, tyLp.rep H3 [.int .u8 bd, .bool nw, .slice none 0 0, .slice none 0 0] ⟨bd, nw, [], []⟩ := fun H3 => ⟨_, _, rfl, SlR.nil, SlR.nil⟩
      refine All.callS 2 (R := fun u H' => ∃ cs', u = .agg cs'.toArray ∧ tyLpE.rep H' cs' ⟨bd, nw, [], []⟩) (Sp.of (fun lo => copied_ok (k := k + 6) (hx _) (by simp) (by simp)) fun u H' lo' ⟨cs', h1, h2⟩ => ⟨cs', h1, gets_lpE H' { H' with lo := lo' } _ _ (fun _ => rfl) h2⟩) fun u H3 hE3 hu => ?_
      obtain ⟨cs2, rfl, hx2⟩ := hu
      have hI3 := hI.mono hE3
      obtain ⟨c0, c1, c2, c3, rfl⟩ := list4 (tyLpE.len hx2)
      obtain ⟨v, v8, H9, H11, e1, e2, e3, e4⟩ := hI3.step (j := 2) (by omega) (by omega) (by rw [f2, n2]; omega) hx2
      rw [hv2] at e1
      have e1 := Option.some.inj e1
      subst e1
      simp only [build59_1, onVH_s, e2, e3, onH_s]
      unfold f26_r18
      have ho : oLen Try.prog 58 (.slice (some ⟨H2.n, 0, none⟩) 6 6) = some (.int .i64 (6 : Nat)) := by unfold oLen; rw [u58]
      simp only [ho, onV_s]
      refine ad_l19 (fun vs' H4 hC => ?_) (k + 8) 0 _ H11 (by omega) (by omega) e4.done
      unfold f26_r23
      have htab := hC.tab
      rw [upd_at, upd_ne _ _ (by omega), upd_ne _ _ (by omega), upd_ne _ _ (by omega), upd_ne _ _ (by omega), upd_ne _ _ (by omega), f0, f1, f2, f3, f4, f5] at htab
      have hbad : Bad [a, b, c ++ [⟨bd, nw, [], []⟩], d, e, f] := ⟨2, _, c.length, ⟨bd, nw, [], []⟩, rfl, by simp, .inl hbd⟩
      have hchk : chk [a, b, c ++ [⟨bd, nw, [], []⟩], d, e, f] = 1 := by
        unfold chk
        rw [if_neg (by simp), if_pos hbad]
      have hmed : Med [a, b, c ++ [⟨bd, nw, [], []⟩], d, e, f] := by
        have hm := hsm.med
        have hr := hsm.row
        refine ⟨by simp, fun l hl => ?_, fun l hl x hx => ?_, fun l hl x hx => ?_⟩
        · simp only [List.mem_cons, List.not_mem_nil, or_false] at hl
          rcases hl with rfl | rfl | rfl | rfl | rfl | rfl
          · exact hm.row _ (by simp)
          · exact hm.row _ (by simp)
          · have := hr c (by simp); rw [List.length_append, List.length_singleton]; omega
          · exact hm.row _ (by simp)
          · exact hm.row _ (by simp)
          · exact hm.row _ (by simp)
        · simp only [List.mem_cons, List.not_mem_nil, or_false] at hl
          rcases hl with rfl | rfl | rfl | rfl | rfl | rfl
          · exact hm.thr _ (by simp) x hx
          · exact hm.thr _ (by simp) x hx
          · rcases List.mem_append.1 hx with hx | hx
            · exact hm.thr c (by simp) x hx
            · rw [List.mem_singleton] at hx; subst hx; simp
          · exact hm.thr _ (by simp) x hx
          · exact hm.thr _ (by simp) x hx
          · exact hm.thr _ (by simp) x hx
        · simp only [List.mem_cons, List.not_mem_nil, or_false] at hl
          rcases hl with rfl | rfl | rfl | rfl | rfl | rfl
          · exact hm.past _ (by simp) x hx
          · exact hm.past _ (by simp) x hx
          · rcases List.mem_append.1 hx with hx | hx
            · exact hm.past c (by simp) x hx
            · rw [List.mem_singleton] at hx; subst hx; simp
          · exact hm.past _ (by simp) x hx
          · exact hm.past _ (by simp) x hx
          · exact hm.past _ (by simp) x hx
      refine All.call0 (check_ok (k := k + 1) (by omega) htab hmed) fun v1 H5 h => ?_
      obtain ⟨hE5, hv5⟩ := h
      have hE5 : Ext H4 H5 := hE5
      have hv5 : v1 = .int .i64 (chk [a, b, c ++ [⟨bd, nw, [], []⟩], d, e, f]) := hv5
      rw [hchk] at hv5
      subst hv5
      simp only [bin_neq, onV_s, asB_b, onBool_d]
      rw [if_pos (by decide)]
      exact All.mk ⟨((hE.trans hE2).trans hC.ext).trans hE5, rfl⟩
  · rw [if_pos h0, if_neg h0]
    exact All.mk ⟨hE.trans hE2, rfl⟩
end
end Go.Proofs.Ythicilkmjamefaa
