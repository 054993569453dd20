/- The law: whether the holds' yarn is there; what is wanted of Check. -/
import Derived.Test.YthicilkmjamefaaSoL
namespace Go.Proofs.Ythicilkmjamefaa
open Go.Gh
set_option linter.unusedVariables false
set_option linter.unusedSimpArgs false

theorem frH_none : ∀ (hs : List HoldD) (a : Int), (∀ h ∈ hs, h.art ≠ a) → frH hs a = 0
  | [], _, _ => rfl
  | g :: r, a, h => by
    have he : frH (g :: r) a = (if g.art = a then g.len else 0) + frH r a := by unfold frH; rw [List.map_cons, List.sum_cons]
    rw [he, if_neg (h g (by simp)), frH_none r a fun c hc => h c (by simp [hc])]; rfl
section
variable {c : Handle} {k' bx i : Nat} {x5 vC vH : Value} {w : Value} {H : GH} {Q : Value × GH → Prop} {sg : Sg4} {cs : List ConeD} {hs : List HoldD}
theorem lw_l33 (hg : H.get bx = some (.row [vC, vH] 88 false)) (hh : SlR tyHo H vH hs) (hl : hs.length ≤ 1000) (hv : ∀ h ∈ hs, 0 ≤ h.len ∧ h.len ≤ 1000000000) (hi : i < hs.length) {n0 : Int} (hn0 : 0 ≤ n0 ∧ n0 ≤ 1000000000000)
    (hgo : All (f7_r37 c k' sg x5 (.pointer (some ⟨bx, 0, none⟩)) w (.int .i64 i) (.int .i64 (n0 - frH hs hs[i].art)) H) Q) :
    ∀ (r j : Nat), j ≤ hs.length → hs.length - j < r → All (f7_l33 c k' sg r x5 (.pointer (some ⟨bx, 0, none⟩)) w (.int .i64 i) (.int .i64 (n0 - frH (hs.take j) hs[i].art)) (.int .i64 j) H) Q := by
  intro r
  induction r with
  | zero => intro j _ h; omega
  | succ r ih =>
    intro j hj hr
    show All (f7_l33b c k' sg (f7_l33 c k' sg r) x5 (.pointer (some ⟨bx, 0, none⟩)) w (.int .i64 i) (.int .i64 (n0 - frH (hs.take j) hs[i].art)) (.int .i64 j) H) Q
    unfold f7_l33b
    have l1 : gLoad Try.prog 86 (.pointer (some ⟨bx, 1, none⟩)) H = some vH := PtC.load1 (P := Try.prog) (t := 86) ⟨bx, 1, _, _, _, rfl, hg, by simp, rfl⟩ ld86
    simp only [fa88_1, l1, onV_s, hh.oLen u86, bin_lss, asB_b, onBool_d]
    by_cases hlt : j < hs.length
    · rw [if_pos (by omega)]
      obtain ⟨p, e1, e2⟩ := ho_at hh (k := .i64) hlt
      obtain ⟨s0, s1, s2, a0, b0, a1, b1, a2, b2⟩ := ho_f e2
      obtain ⟨q, e3, e4⟩ := ho_at hh (k := .i64) hi
      obtain ⟨t0, t1, t2, c0, d0, c1, d1, c2, d2⟩ := ho_f e4
      unfold f7_r35
      simp only [fa88_1, l1, onV_s, e1, a1, b1, e3, c1, d1, bin_eql, asB_b, onBool_d]
      have hsn := frH_snoc hs hlt hs[i].art
      have h1 := frH_le (hs.take (j + 1)) hs[i].art fun h hm => hv h (List.mem_of_mem_take hm)
      have h2 : (hs.take (j + 1)).length ≤ 1000 := by rw [List.length_take]; omega
      by_cases he : hs[j].art = hs[i].art
      · rw [if_pos he]
        rw [if_pos he] at hsn
        unfold f7_r36
        simp only [fa88_1, l1, onV_s, e1, a2, b2, bin_sub, bin_add]
        rw [show n0 - frH (hs.take j) hs[i].art - hs[j].len = n0 - frH (hs.take (j + 1)) hs[i].art by omega, Go.IntWalk.i64_in _ (by omega), wrS (by omega)]
        exact ih (j + 1) (by omega) (by omega)
      · rw [if_neg he]
        rw [if_neg he] at hsn
        unfold f7_r34
        simp only [bin_add, onV_s]
        rw [show n0 - frH (hs.take j) hs[i].art = n0 - frH (hs.take (j + 1)) hs[i].art by omega, wrS (by omega)]
        exact ih (j + 1) (by omega) (by omega)
    · rw [if_neg (by omega)]
      rw [List.take_of_length_le (by omega)]
      exact hgo
theorem lw_l28 (hk : 1000 < k') (hg : H.get bx = some (.row [vC, vH] 88 false)) (hs' : SlR tyCo H vC cs) (hcl : cs.length ≤ 1000) (hcv : ∀ c ∈ cs, 0 ≤ c.len ∧ c.len ≤ 1000000000) (hh : SlR tyHo H vH hs) (hl : hs.length ≤ 1000) (hv : ∀ h ∈ hs, 0 ≤ h.len ∧ h.len ≤ 1000000000) (hi : i < hs.length)
    (hgo : All (f7_r37 c k' sg x5 (.pointer (some ⟨bx, 0, none⟩)) w (.int .i64 i) (.int .i64 (fr cs hs hs[i].art)) H) Q) :
    ∀ (r j : Nat), j ≤ cs.length → cs.length - j < r → All (f7_l28 c k' sg r x5 (.pointer (some ⟨bx, 0, none⟩)) w (.int .i64 i) (.int .i64 (frC (cs.take j) hs[i].art)) (.int .i64 j) H) Q := by
  intro r
  induction r with
  | zero => intro j _ h; omega
  | succ r ih =>
    intro j hj hr
    show All (f7_l28b c k' sg (f7_l28 c k' sg r) x5 (.pointer (some ⟨bx, 0, none⟩)) w (.int .i64 i) (.int .i64 (frC (cs.take j) hs[i].art)) (.int .i64 j) H) Q
    unfold f7_l28b
    have l0 : gLoad Try.prog 85 (.pointer (some ⟨bx, 0, none⟩)) H = some vC := PtC.load1 (P := Try.prog) (t := 85) ⟨bx, 0, _, _, _, rfl, hg, by simp, rfl⟩ ld85
    have l1 : gLoad Try.prog 86 (.pointer (some ⟨bx, 1, none⟩)) H = some vH := PtC.load1 (P := Try.prog) (t := 86) ⟨bx, 1, _, _, _, rfl, hg, by simp, rfl⟩ ld86
    simp only [fa88, l0, onV_s, hs'.oLen u85, bin_lss, asB_b, onBool_d]
    by_cases hlt : j < cs.length
    · rw [if_pos (by omega)]
      obtain ⟨p, e1, e2⟩ := co_at hs' (k := .i64) hlt
      obtain ⟨s0, s1, a0, b0, a1, b1⟩ := co_f e2
      obtain ⟨q, e3, e4⟩ := ho_at hh (k := .i64) hi
      obtain ⟨t0, t1, t2, c0, d0, c1, d1, c2, d2⟩ := ho_f e4
      unfold f7_r30
      simp only [fa88, fa88_1, l0, l1, onV_s, e1, a0, b0, e3, c1, d1, bin_eql, asB_b, onBool_d]
      have hsn := frC_snoc cs hlt hs[i].art
      have h1 := frC_le (cs.take (j + 1)) hs[i].art fun h hm => hcv h (List.mem_of_mem_take hm)
      have h2 : (cs.take (j + 1)).length ≤ 1000 := by rw [List.length_take]; omega
      by_cases he : cs[j].art = hs[i].art
      · rw [if_pos he]
        rw [if_pos he] at hsn
        unfold f7_r31
        simp only [fa88, l0, onV_s, e1, a1, b1, bin_add]
        rw [← hsn, Go.IntWalk.i64_in _ (by omega), wrS (by omega)]
        exact ih (j + 1) (by omega) (by omega)
      · rw [if_neg he]
        rw [if_neg he, Int.add_zero] at hsn
        unfold f7_r29
        simp only [bin_add, onV_s]
        rw [← hsn, wrS (by omega)]
        exact ih (j + 1) (by omega) (by omega)
    · rw [if_neg (by omega)]
      rw [List.take_of_length_le (by omega)]
      unfold f7_r32
      have h1 := frC_le cs hs[i].art hcv
      have := lw_l33 (n0 := frC cs hs[i].art) hg hh hl hv hi (by omega) hgo k' 0 (by omega) (by omega)
      rw [List.take_zero, show frH [] hs[i].art = 0 from rfl, Int.sub_zero] at this
      exact this
def Fin3 (cs : List ConeD) (hs : List HoldD) (w : Int) : Prop := (w = 0 ∧ ¬ CBad cs ∧ ¬ HBad hs ∧ ¬ Short cs hs) ∨ (w = 18 ∧ ¬ CBad cs ∧ ¬ HBad hs ∧ Short cs hs) ∨ (w = 1 ∧ (CBad cs ∨ HBad hs))
theorem lw_l24 (hk : 1000 < k') (hg : H.get bx = some (.row [vC, vH] 88 false)) (hs' : SlR tyCo H vC cs) (hcl : cs.length ≤ 1000) (hh : SlR tyHo H vH hs) (hl : hs.length ≤ 1000)
    (hgo : ∀ w, Fin3 cs hs w → All (f7_r39 c k' x5 (.pointer (some ⟨bx, 0, none⟩)) (.int .i64 w) H) Q) :
    ∀ (r i : Nat) (w : Int), i ≤ hs.length → hs.length - i < r → ((w = 0 ∧ ¬ CBad cs ∧ ¬ HBad hs ∧ ∀ n (hn : n < hs.length), n < i → 0 ≤ fr cs hs hs[n].art) ∨ (w = 18 ∧ ¬ CBad cs ∧ ¬ HBad hs ∧ Short cs hs) ∨ (w = 1 ∧ (CBad cs ∨ HBad hs))) →
      All (f7_l24 c k' r x5 (.pointer (some ⟨bx, 0, none⟩)) (.int .i64 w) (.int .i64 i) H) Q := by
  intro r
  induction r with
  | zero => intro i w _ h; omega
  | succ r ih =>
    intro i w hi hr hw
    show All (f7_l24b c k' (f7_l24 c k' r) x5 (.pointer (some ⟨bx, 0, none⟩)) (.int .i64 w) (.int .i64 i) H) Q
    unfold f7_l24b f7_g24_6
    have l1 : gLoad Try.prog 86 (.pointer (some ⟨bx, 1, none⟩)) H = some vH := PtC.load1 (P := Try.prog) (t := 86) ⟨bx, 1, _, _, _, rfl, hg, by simp, rfl⟩ ld86
    simp only [fa88_1, l1, onV_s, hh.oLen u86, bin_lss, bin_eql, asB_b, onBool_d]
    rcases hw with ⟨h1, h2, h3, h4⟩ | hw
    · by_cases hlt : i < hs.length
      · rw [if_pos (by omega), if_pos h1]
        have hcv : ∀ c ∈ cs, 0 ≤ c.len ∧ c.len ≤ 1000000000 := fun c hc => coneOk_len (cones_ok h2 c hc)
        have hhv : ∀ h ∈ hs, 0 ≤ h.len ∧ h.len ≤ 1000000000 := fun c hc => holdOk_len (holds_ok h3 c hc)
        have key := lw_l28 (c := c) (k' := k') (bx := bx) (x5 := x5) (w := .int .i64 w) (sg := f7_l24 c k' r) (Q := Q) hk hg hs' hcl hcv hh hl hhv hlt ?_ k' 0 (by omega) (by omega)
        · exact key
        · unfold f7_r37
          simp only [bin_lss, onV_s, asB_b, onBool_d, bin_add]
          rw [wrS (by omega)]
          by_cases hn : fr cs hs hs[i].art < 0
          · rw [if_pos hn]
            exact ih (i + 1) 18 (by omega) (by omega) (.inr (.inl ⟨rfl, h2, h3, _, hn⟩))
          · rw [if_neg hn]
            refine ih (i + 1) w (by omega) (by omega) (.inl ⟨h1, h2, h3, fun n hn' hni => ?_⟩)
            rcases Nat.lt_or_ge n i with h5 | h5
            · exact h4 n hn' h5
            · have hh : n = i := by omega
              subst hh; omega
      · rw [if_neg (by omega)]
        refine hgo w (.inl ⟨h1, h2, h3, fun ⟨x, hx⟩ => ?_⟩)
        by_cases hex : ∃ h ∈ hs, h.art = x
        · obtain ⟨h, hm, ha⟩ := hex
          obtain ⟨n, hn, he⟩ := List.getElem_of_mem hm
          have := h4 n hn (by omega)
          rw [he, ha] at this
          omega
        · have h5 := frH_none hs x fun h hm ha => hex ⟨h, hm, ha⟩
          have h6 := (frC_le cs x fun c hc => coneOk_len (cones_ok h2 c hc)).1
          unfold fr at hx
          omega
    · have hw0 : w ≠ 0 := by rcases hw with h | h <;> (have := h.1; omega)
      rw [if_neg hw0]
      have := hgo w (.inr hw)
      split <;> exact this
theorem lw_r39 (hg : H.get bx = some (.row [vC, vH] 88 false)) (hs' : SlR tyCo H vC cs) (hl : hs.length ≤ 512) {w : Int} (hw : Fin3 cs hs w) (hgo : All (f7_r41 c k' x5 (.pointer (some ⟨bx, 0, none⟩)) (.int .i64 (chk cs hs)) H) Q) :
    All (f7_r39 c k' x5 (.pointer (some ⟨bx, 0, none⟩)) (.int .i64 w) H) Q := by
  unfold f7_r39
  have l0 : gLoad Try.prog 85 (.pointer (some ⟨bx, 0, none⟩)) H = some vC := PtC.load1 (P := Try.prog) (t := 85) ⟨bx, 0, _, _, _, rfl, hg, by simp, rfl⟩ ld85
  simp only [fa88, l0, onV_s, hs'.oLen u85, bin_gtr, asB_b, onBool_d]
  by_cases h5 : 512 < cs.length
  · rw [if_pos (by omega)]
    have : chk cs hs = 3 := by unfold chk; rw [if_pos (.inl h5)]
    rw [this] at hgo
    exact hgo
  · rw [if_neg (by omega)]
    have : chk cs hs = w := by
      unfold chk
      rw [if_neg (by omega)]
      rcases hw with ⟨h1, h2, h3, h4⟩ | ⟨h1, h2, h3, h4⟩ | ⟨h1, h2⟩
      · rw [if_neg (fun h => h.elim h2 h3), if_neg h4, h1]
      · rw [if_neg (fun h => h.elim h2 h3), if_pos h4, h1]
      · rw [if_pos h2, h1]
    rw [this] at hgo
    exact hgo
end
end Go.Proofs.Ythicilkmjamefaa
/- The law: the calls' errors; it answers true. -/
namespace Go.Proofs.Ythicilkmjamefaa
open Go.Gh
set_option linter.unusedVariables false
set_option linter.unusedSimpArgs false

theorem ext3 {a b c : Value} : oExtract (.tuple #[a, b, c]) 0 = some a ∧ oExtract (.tuple #[a, b, c]) 1 = some b ∧ oExtract (.tuple #[a, b, c]) 2 = some c := ⟨rfl, rfl, rfl⟩
theorem len85 {a : Option Addr} {n c : Nat} : oLen Try.prog 85 (.slice a n c) = some (.int .i64 n) := by unfold oLen; rw [u85]
theorem eqB {a b : Bool} : (oBin Try.prog .eql 4 (.bool a) (.bool b)).filter closed = some (.bool (a == b)) := by cases a <;> cases b <;> kernel_rfl
theorem stbox {H : GH} {a1 a2 : Option Addr} {n1 n2 c1 c2 : Nat} : ∃ H', gStore Try.prog 88 (.pointer (some ⟨H.n, 0, none⟩)) (stV (.slice a1 n1 c1) (.slice a2 n2 c2)) (GH.push H (.row [(.slice none 0 0), (.slice none 0 0)] 88 false)) = some H' ∧ Ext H H' ∧ H'.get H.n = some (.row [.slice a1 n1 c1, .slice a2 n2 c2] 88 false) := by
  obtain ⟨H', f1, f2, f3, _⟩ := box (P := Try.prog) (t := 88) (H := H) (v := stV (.slice a1 n1 c1) (.slice a2 n2 c2)) (cs := [.slice a1 n1 c1, .slice a2 n2 c2]) (row := [.slice none 0 0, .slice none 0 0]) (e := 88) (gSize_ld ld88) rfl rfl rfl
  exact ⟨H', f1, f2, f3⟩
/-- What the law holds all along: the stock that is tried, and the hold. -/
structure Cx (H : GH) (bx : Nat) (x5 vC vH : Value) (cs : List ConeD) (hs : List HoldD) (h : HoldD) : Prop where
  s : StI H vC vH cs hs
  g : H.get bx = some (.row [vC, vH] 88 false)
  p : PtC H x5 (hoC h)
  l : hs.length ≤ 512
  m : cs.length ≤ 1000
section
variable {k k' bx ba bb : Nat} {x5 vC vH wa wb : Value} {cs : List ConeD} {hs : List HoldD} {h : HoldD} {H H' : GH} {a1 b1 : Option Addr} {n1 c1 m1 d1 : Nat} {e f g kn i : Int}
theorem Cx.mono (hc : Cx H bx x5 vC vH cs hs h) (hE : Ext H H') : Cx H' bx x5 vC vH cs hs h := ⟨hc.s.mono hE, hE.get_of hc.g, hc.p.mono hE, hc.l, hc.m⟩
noncomputable def ACode (cs : List ConeD) (hs : List HoldD) (c : ConeD) : Int := if chk cs hs ≠ 0 then chk cs hs else if coneOk c = false then 1 else if cs.length = 512 then 9 else 0
theorem lw_r57 {o : Bool} (hf : f = 1 ↔ o = false) (hi : i = 1 ↔ o = false) (hg : g = 0 ∨ g = 7) : All (f7_r57 (C (k + 1)) k' (.int .i64 e) (.int .i64 f) (.int .i64 g) (.int .i64 i) (.int .i64 e) (.bool o) H) Yes := by
  unfold f7_r57 f7_g57_4 f7_g57_11 f7_g57_18 f7_g57_21 f7_g57_26
  have hb : ∀ x : Int, (x = 1 ↔ o = false) → (decide (x = 1) == !o) = true := fun x hx => by
    cases o with
    | false => simp [hx.2 rfl]
    | true =>
      have : ¬ x = 1 := fun h => by cases hx.1 h
      simp [this]
  simp only [bin_eql, onV_s, asB_b, not_b, eqB, hb f hf, hb i hi, onBool_i, decide_true, if_true, decide_eq_true_eq]
  by_cases h0 : g = 0
  · rw [if_pos h0]; exact lives_end
  · rw [if_neg h0, if_pos (by omega)]; exact lives_end
theorem lw_r56 (hc : Cx H bx x5 vC vH cs hs h) (hok : coneOk ⟨h.art, h.len⟩ = true) (hf : f = 1 ↔ holdOk h = false) (hi : i = 1 ↔ holdOk h = false) (hg : g = 0 ∨ g = 7) : All (f7_r56 (C (k + 1)) k' x5 (.int .i64 e) (.int .i64 f) (.int .i64 g) (.int .i64 i) (.int .i64 e) H) Yes := by
  unfold f7_r56 f7_g56_4
  obtain ⟨q0, q1, q2, r0, s0, r1, s1, r2, s2⟩ := ho_f hc.p
  have hh : holdOk h = (decide (1 ≤ h.ord) && decide (h.ord ≤ 100000)) := by unfold holdOk; rw [hok, Bool.and_true]
  rw [hh] at hf hi
  simp only [r0, s0, onV_s, bin_geq, bin_leq, asB_b, onBool_d]
  by_cases h1 : 1 ≤ h.ord
  · rw [if_pos h1]
    rw [decide_eq_true h1, Bool.true_and] at hf hi
    exact lw_r57 hf hi hg
  · rw [if_neg h1]
    rw [decide_eq_false h1, Bool.false_and] at hf hi
    exact lw_r57 hf hi hg
theorem lw_r49 (hk : 5000 ≤ k) (hc : Cx H bx x5 vC vH cs hs h) (ga : H.get ba = some (.row [.slice a1 n1 c1, wa] 88 false)) (gb : H.get bb = some (.row [.slice b1 m1 d1, wb] 88 false))
    (he : e = ACode cs hs ⟨h.art, h.len⟩) (hna : chk cs hs ≠ 0 → n1 = 0) (hf : (chk cs hs ≠ 0 → f = chk cs hs ∧ m1 = 0) ∧ (chk cs hs = 0 → (f = 1 ↔ holdOk h = false)))
    (hg : (chk cs hs ≠ 0 → g = chk cs hs) ∧ (chk cs hs = 0 → g = 0 ∨ g = 7)) (hi : (chk cs hs ≠ 0 → kn = 0 ∧ i = chk cs hs) ∧ (chk cs hs = 0 → (i = 1 ↔ holdOk h = false))) :
    All (f7_r49 (C (k + 6)) k' x5 (.pointer (some ⟨bx, 0, none⟩)) (.int .i64 (chk cs hs)) (.bool (coneOk ⟨h.art, h.len⟩)) (.pointer (some ⟨ba, 0, none⟩)) (.int .i64 e) (.pointer (some ⟨bb, 0, none⟩)) (.int .i64 f) (.int .i64 g) (.int .i64 kn) (.int .i64 i) H) Yes := by
  unfold f7_r49
  unfold ACode at he
  obtain ⟨q0, q1, q2, r0, s0, r1, s1, r2, s2⟩ := ho_f hc.p
  simp only [bin_neq, onV_s, asB_b, onBool_d]
  by_cases h0 : chk cs hs = 0
  · rw [if_neg (fun hn => hn h0)]
    rw [if_neg (fun hn => hn h0)] at he
    have hf := hf.2 h0
    have hi := hi.2 h0
    have hg := hg.2 h0
    simp only [not_b, onV_s, asB_b, onBool_i]
    cases hok : coneOk ⟨h.art, h.len⟩ with
    | false =>
      rw [if_pos hok] at he
      have hh : holdOk h = false := by unfold holdOk; rw [hok]; simp
      have e1 := hf.2 hh
      have e2 := hi.2 hh
      subst he; subst e1; subst e2
      simp only [Bool.not_false, if_true]
      unfold f7_r52 f7_g52_3 f7_g52_7 f7_g52_11
      simp only [bin_eql, onV_s, asB_b, onBool_d, if_true]
      exact lives_end (k := k + 5)
    | true =>
      rw [if_neg (by rw [hok]; simp)] at he
      have l0 : gLoad Try.prog 85 (.pointer (some ⟨bx, 0, none⟩)) H = some vC := PtC.load1 (P := Try.prog) (t := 85) ⟨bx, 0, _, _, _, rfl, hc.g, by simp, rfl⟩ ld85
      simp only [Bool.not_true, Bool.false_eq_true, if_false, fa88, l0, onV_s, hc.s.c.oLen u85, bin_eql, asB_b, onBool_d]
      by_cases h5 : cs.length = 512
      · rw [if_pos (by omega)]
        rw [if_pos h5] at he
        rw [he]
        exact lw_r56 (k := k + 5) hc hok hf hi hg
      · rw [if_neg (by omega)]
        rw [if_neg h5] at he
        rw [he]
        exact lw_r56 (k := k + 5) hc hok hf hi hg
  · rw [if_pos h0]
    rw [if_pos h0] at he
    obtain ⟨e1, e2⟩ := hf.1 h0
    obtain ⟨e3, e4⟩ := hi.1 h0
    have e5 := hg.1 h0
    have e6 := hna h0
    have la : ∀ G, G.get ba = some (.row [.slice a1 n1 c1, wa] 88 false) → gLoad Try.prog 85 (.pointer (some ⟨ba, 0, none⟩)) G = some (.slice a1 n1 c1) := fun G hG => PtC.load1 (P := Try.prog) (t := 85) ⟨ba, 0, _, _, _, rfl, hG, by simp, rfl⟩ ld85
    have lb : ∀ G, G.get bb = some (.row [.slice b1 m1 d1, wb] 88 false) → gLoad Try.prog 85 (.pointer (some ⟨bb, 0, none⟩)) G = some (.slice b1 m1 d1) := fun G hG => PtC.load1 (P := Try.prog) (t := 85) ⟨bb, 0, _, _, _, rfl, hG, by simp, rfl⟩ ld85
    unfold f7_r50 f7_g50_4 f7_g50_9 f7_g50_14 f7_g50_19 f7_g50_23
    simp only [bin_eql, onV_s, asB_b, onBool_d, if_pos he, if_pos e1, if_pos e5, if_pos e4, if_pos e3, fa88, la H ga, lb H gb, len85, bin_add]
    unfold f7_g50_33
    simp only [asB_b, onBool_d]
    rw [if_pos (by rw [e6, e2]; rfl)]
    simp only [st_ld (PtC.of hc.g), onV_s, r1, s1]
    refine All.call0 (free_err hk hc.s (by have := hc.l; omega) hc.m h0) fun v H2 hv => ?_
    obtain ⟨hE2, hv⟩ := hv
    have hE2 : Ext H H2 := hE2
    have hv : v = .int .i64 0 := hv
    subst hv
    have hc2 := hc.mono hE2
    unfold f7_g50_40
    simp only [bin_eql, onV_s, asB_b, onBool_d, if_true, st_ld (PtC.of hc2.g), ho_ld hc2.p, build86_1, onVH_s]
    have hE3 := Ext.push H2 (.row (hoC h) 91 false)
    refine All.call0 (need_err hk (hc2.s.mono hE3) (by have := hc.l; omega) hc.m h0) fun v H4 hv => ?_
    obtain ⟨hE4, hv⟩ := hv
    have hv : v = .slice none 0 0 := hv
    subst hv
    unfold f7_g50_48
    simp only [len85, bin_eql, onV_s, asB_b, onBool_d]
    rw [if_pos (show ((0 : Nat) : Int) = 0 from rfl)]
    exact lives_end (k := k + 5)
theorem lw_r48 (hk : 5000 ≤ k) (hc : Cx H bx x5 vC vH cs hs h) (ga : H.get ba = some (.row [.slice a1 n1 c1, wa] 88 false)) (gb : H.get bb = some (.row [.slice b1 m1 d1, wb] 88 false))
    (he : e = ACode cs hs ⟨h.art, h.len⟩) (hna : chk cs hs ≠ 0 → n1 = 0) (hf : (chk cs hs ≠ 0 → f = chk cs hs ∧ m1 = 0) ∧ (chk cs hs = 0 → (f = 1 ↔ holdOk h = false)))
    (hg : (chk cs hs ≠ 0 → g = chk cs hs) ∧ (chk cs hs = 0 → g = 0 ∨ g = 7)) :
    All (f7_r48 (C (k + 6)) k' x5 (.pointer (some ⟨bx, 0, none⟩)) (.int .i64 (chk cs hs)) (.bool (coneOk ⟨h.art, h.len⟩)) (.pointer (some ⟨ba, 0, none⟩)) (.int .i64 e) (.pointer (some ⟨bb, 0, none⟩)) (.int .i64 f) (.int .i64 g) H) Yes := by
  unfold f7_r48
  obtain ⟨q0, q1, q2, r0, s0, r1, s1, r2, s2⟩ := ho_f hc.p
  simp only [st_ld (PtC.of hc.g), onV_s, r0, s0, r1, s1, r2, s2]
  refine All.call0 (use_ok hk hc.s (by have := hc.l; omega) hc.m h.ord h.art h.len) fun v H2 hv => ?_
  obtain ⟨hE2, u1, l1, t1, u2, l2, t2, kn, i, hv, hi⟩ := hv
  have hE2 : Ext H H2 := hE2
  have hv : v = .tuple #[stV (.slice u1 l1 t1) (.slice u2 l2 t2), .int .i64 kn, .int .i64 i] := hv
  subst hv
  obtain ⟨H3, f1, f2, f3⟩ := stbox (H := H2) (a1 := u1) (n1 := l1) (c1 := t1) (a2 := u2) (n2 := l2) (c2 := t2)
  simp only [ext3.1, ext3.2.1, ext3.2.2, onV_s, f1, onH_s]
  have hE3 := hE2.trans f2
  exact lw_r49 hk (hc.mono hE3) (hE3.get_of ga) (hE3.get_of gb) he hna hf hg hi
theorem lw_r47 (hk : 5000 ≤ k) (hc : Cx H bx x5 vC vH cs hs h) (ga : H.get ba = some (.row [.slice a1 n1 c1, wa] 88 false)) (gb : H.get bb = some (.row [.slice b1 m1 d1, wb] 88 false))
    (he : e = ACode cs hs ⟨h.art, h.len⟩) (hna : chk cs hs ≠ 0 → n1 = 0) (hf : (chk cs hs ≠ 0 → f = chk cs hs ∧ m1 = 0) ∧ (chk cs hs = 0 → (f = 1 ↔ holdOk h = false))) :
    All (f7_r47 (C (k + 6)) k' x5 (.pointer (some ⟨bx, 0, none⟩)) (.int .i64 (chk cs hs)) (.bool (coneOk ⟨h.art, h.len⟩)) (.pointer (some ⟨ba, 0, none⟩)) (.int .i64 e) (.pointer (some ⟨bb, 0, none⟩)) (.int .i64 f) H) Yes := by
  unfold f7_r47
  obtain ⟨q0, q1, q2, r0, s0, r1, s1, r2, s2⟩ := ho_f hc.p
  simp only [st_ld (PtC.of hc.g), onV_s, r0, s0]
  refine All.call0 (release_ok hk hc.s (by have := hc.l; omega) hc.m h.ord) fun v H2 hv => ?_
  obtain ⟨hE2, u1, l1, t1, u2, l2, t2, g, hv, hg⟩ := hv
  have hE2 : Ext H H2 := hE2
  have hv : v = .tuple #[stV (.slice u1 l1 t1) (.slice u2 l2 t2), .int .i64 g] := hv
  subst hv
  obtain ⟨H3, f1, f2, f3⟩ := stbox (H := H2) (a1 := u1) (n1 := l1) (c1 := t1) (a2 := u2) (n2 := l2) (c2 := t2)
  simp only [ext2.1, ext2.2, onV_s, f1, onH_s]
  have hE3 := hE2.trans f2
  exact lw_r48 hk (hc.mono hE3) (hE3.get_of ga) (hE3.get_of gb) he hna hf hg
theorem lw_r46 (hk : 5000 ≤ k) (hc : Cx H bx x5 vC vH cs hs h) (ga : H.get ba = some (.row [.slice a1 n1 c1, wa] 88 false))
    (he : e = ACode cs hs ⟨h.art, h.len⟩) (hna : chk cs hs ≠ 0 → n1 = 0) :
    All (f7_r46 (C (k + 6)) k' x5 (.pointer (some ⟨bx, 0, none⟩)) (.int .i64 (chk cs hs)) (.bool (coneOk ⟨h.art, h.len⟩)) (.pointer (some ⟨ba, 0, none⟩)) (.int .i64 e) H) Yes := by
  unfold f7_r46
  simp only [st_ld (PtC.of hc.g), onV_s, ho_ld hc.p, build86_1, onVH_s]
  have hE1 := Ext.push H (.row (hoC h) 91 false)
  have hp2 : SlR tyHo (H.push (.row (hoC h) 91 false)) (.slice (some ⟨H.n, 0, none⟩) 1 1) [h] := .inr ⟨H.n, 0, 1, _, 91, false, hoC h, rfl, GH.get_push_new, Nat.le_refl _, rfl, .cons (c := hoC h) (cs := []) rfl .nil⟩
  refine All.call0 (reserve_ok hk (hc.s.mono hE1) (by have := hc.l; omega) hc.m hp2) fun v H2 hv => ?_
  obtain ⟨hE2, u1, l1, t1, u2, l2, t2, f, hv, hf⟩ := hv
  have hE2 : Ext (H.push (.row (hoC h) 91 false)) H2 := hE2
  have hv : v = .tuple #[stV (.slice u1 l1 t1) (.slice u2 l2 t2), .int .i64 f] := hv
  subst hv
  obtain ⟨H3, f1, f2, f3⟩ := stbox (H := H2) (a1 := u1) (n1 := l1) (c1 := t1) (a2 := u2) (n2 := l2) (c2 := t2)
  simp only [ext2.1, ext2.2, onV_s, f1, onH_s]
  have hE3 := (hE1.trans hE2).trans f2
  exact lw_r47 hk (hc.mono hE3) (hE3.get_of ga) f3 he hna hf
theorem lw_r45 (hk : 5000 ≤ k) (hc : Cx H bx x5 vC vH cs hs h) {q : Value} (hq : PtC H q (coC ⟨h.art, h.len⟩)) :
    All (f7_r45 (C (k + 6)) k' x5 (.pointer (some ⟨bx, 0, none⟩)) (.int .i64 (chk cs hs)) q (.bool (coneOk ⟨h.art, h.len⟩)) H) Yes := by
  unfold f7_r45
  simp only [st_ld (PtC.of hc.g), onV_s, co_ld hq]
  refine All.call0 (add_ok hk hc.s (by have := hc.l; omega) hc.m ⟨h.art, h.len⟩) fun v H2 hv => ?_
  obtain ⟨hE2, u1, l1, t1, u2, l2, t2, hv, hn⟩ := hv
  have hE2 : Ext H H2 := hE2
  have hv : v = .tuple #[stV (.slice u1 l1 t1) (.slice u2 l2 t2), .int .i64 (ACode cs hs ⟨h.art, h.len⟩)] := hv
  subst hv
  obtain ⟨H3, f1, f2, f3⟩ := stbox (H := H2) (a1 := u1) (n1 := l1) (c1 := t1) (a2 := u2) (n2 := l2) (c2 := t2)
  simp only [ext2.1, ext2.2, onV_s, f1, onH_s]
  exact lw_r46 hk (hc.mono (hE2.trans f2)) f3 rfl hn
theorem lw_r41 (hk : 5001 ≤ k) (hc : Cx H bx x5 vC vH cs hs h) :
    All (f7_r41 (C (k + 6)) k' x5 (.pointer (some ⟨bx, 0, none⟩)) (.int .i64 (chk cs hs)) H) Yes := by
  unfold f7_r41
  simp only [st_ld (PtC.of hc.g), onV_s]
  refine All.call0 (check_ok (k := k + 1) (by omega) hc.s (by have := hc.l; omega) hc.m) fun v H2 hv => ?_
  obtain ⟨hE2, hv⟩ := hv
  have hE2 : Ext H H2 := hE2
  have hv : v = .int .i64 (chk cs hs) := hv
  subst hv
  simp only [bin_neq, onV_s, asB_b, onBool_d]
  rw [if_neg (fun hn => hn rfl)]
  have hc2 := hc.mono hE2
  obtain ⟨q0, q1, q2, r0, s0, r1, s1, r2, s2⟩ := ho_f hc2.p
  obtain ⟨H3, f1, f2, f3, f4⟩ := box (P := Try.prog) (t := 93) (H := H2) (v := coV ⟨h.art, h.len⟩) (cs := coC ⟨h.art, h.len⟩) (row := [(.int .i64 0), (.int .i64 0)]) (e := 93) (gSize_ld ld93) rfl rfl rfl
  simp only [r1, s1, r2, s2, onV_s, build93, f1, onH_s]
  have hc3 := hc2.mono f2
  have hp : PtC H3 (.pointer (some ⟨H2.n, 0, none⟩)) (coC ⟨h.art, h.len⟩) := PtC.of f3
  have key := lw_r45 (k' := k') (k := k) (by omega) hc3 hp
  revert hp key
  generalize (Value.pointer (some ⟨H2.n, 0, none⟩)) = q
  intro hp key
  unfold f7_r44 f7_g44_4 f7_g44_9 f7_g44_14
  obtain ⟨y0, y1, v0, w0, v1, w1⟩ := co_f hp
  simp only [v0, w0, v1, w1, onV_s, bin_geq, bin_leq, asB_b, onBool_d]
  unfold coneOk at key
  by_cases g1 : 1 ≤ h.art
  · rw [if_pos g1]
    rw [decide_eq_true g1, Bool.true_and] at key
    by_cases g2 : h.art ≤ 1000
    · rw [if_pos g2]
      rw [decide_eq_true g2, Bool.true_and] at key
      by_cases g3 : 1 ≤ h.len
      · rw [if_pos g3]
        rw [decide_eq_true g3, Bool.true_and] at key
        exact key
      · rw [if_neg g3]
        rw [decide_eq_false g3, Bool.false_and] at key
        exact key
    · rw [if_neg g2]
      rw [decide_eq_false g2, Bool.false_and] at key
      exact key
  · rw [if_neg g1]
    rw [decide_eq_false g1, Bool.false_and] at key
    exact key
end
theorem law_ok {k : Nat} {t : Int} {sC sH : Value} {scs : List ConeD} {hs : List HoldD} {h : HoldD} {H : GH} (hk : 5001 ≤ k) (ht : 0 ≤ t) (hS : StI H sC sH scs hs) : All (C (k + 7) (.func (.func 7) #[] #[]) [stV sC sH, .int .u16 t, hoV h] H) Yes := by
  rw [C_func T7, f7_eq]
  unfold f7_sh
  have hcl' : (Value.cells (stV sC sH)).toList = [sC, sH] := rfl
  have hch : (Value.cells (hoV h)).toList = hoC h := rfl
  rw [hcl', hch]
  have hn1 : (H.push (.row [sC, sH] 88 false)).n = H.n + 1 := rfl
  rw [hn1]
  have hE : Ext H ((H.push (.row [sC, sH] 88 false)).push (.row (hoC h) 91 false)) := (Ext.push _ _).push' _
  have g0 : ((H.push (.row [sC, sH] 88 false)).push (.row (hoC h) 91 false)).get H.n = some (.row [sC, sH] 88 false) := (GH.get_push_old (Nat.lt_succ_self _)).trans GH.get_push_new
  have g1 : ((H.push (.row [sC, sH] 88 false)).push (.row (hoC h) 91 false)).get (H.n + 1) = some (.row (hoC h) 91 false) := GH.get_push_new
  have h1 := hS.mono hE
  revert hE g0 g1 h1
  generalize (H.push (.row [sC, sH] 88 false)).push (.row (hoC h) 91 false) = H1
  intro hE g0 g1 h1
  unfold f7_g1_5
  obtain ⟨q0, q1, a0, b0, a1, b1⟩ := st_f (PtC.of g0)
  obtain rfl := Option.some.inj (a0.symm.trans fa88)
  simp only [b0, onV_s, h1.c.oLen u85, bin_gtr, asB_b, onBool_d]
  by_cases c1 : 12 < scs.length
  · rw [if_pos (by omega)]; exact lives_end (k := k + 5)
  rw [if_neg (by omega)]
  simp only [a1, b1, onV_s, h1.h.oLen u86, bin_gtr, asB_b, onBool_d]
  by_cases c2 : 12 < hs.length
  · rw [if_pos (by omega)]; exact lives_end (k := k + 5)
  rw [if_neg (by omega)]
  obtain ⟨ah, ch, rfl⟩ := h1.h.val
  obtain ⟨H2, f1, f2, f3⟩ := stbox (H := H1) (a1 := none) (n1 := 0) (c1 := 0) (a2 := ah) (n2 := hs.length) (c2 := ch)
  simp only [build88_1, onV_s, f1, onH_s]
  refine lw_l5 (H0 := H1) ht g0 h1.c (by omega) (Nat.le_refl _) (fun xs vC H3 hE3 g3 hs3 hl3 => ?_) (k + 6) 0 [] (.slice none 0 0) H2 (by omega) (by omega) f2 f3 Own.nil (by simp)
  unfold f7_r8
  have hh3 := h1.h.mono hE3
  refine lw_l10 (H0 := H3) g3 hs3 (by omega) (fun w H4 hE4 hw => ?_) (k + 6) 0 0 H3 (by omega) (by omega) (.refl _) (.inl ⟨rfl, fun c hc => by cases hc⟩)
  unfold f7_r15
  refine lw_l16 (cs := xs) (hs := hs) (H0 := H4) (hE4.get_of g3) (hh3.mono hE4) (by omega) (fun w H5 hE5 hw => ?_) (k + 6) 0 w H4 (by omega) (by omega) (.refl _) (hw.imp (fun h => ⟨h.1, h.2, fun n _ hn => absurd hn (Nat.not_lt_zero n)⟩) fun h => ⟨h.1, .inl h.2⟩)
  have hE35 := hE4.trans hE5
  unfold f7_r23
  refine lw_l24 (by omega) (hE35.get_of g3) (hs3.mono hE35) (by omega) (hh3.mono hE35) (by omega) (fun w hw => ?_) (k + 6) 0 w (by omega) (by omega) (hw.imp (fun h => ⟨h.1, h.2.1, h.2.2, fun n _ hn => absurd hn (Nat.not_lt_zero n)⟩) fun h => .inr h)
  refine lw_r39 (hE35.get_of g3) (hs3.mono hE35) (by omega) hw ?_
  exact lw_r41 hk ⟨⟨hs3.mono hE35, hh3.mono hE35⟩, hE35.get_of g3, PtC.of ((hE3.trans hE35).get_of g1), by omega, by omega⟩
end Go.Proofs.Ythicilkmjamefaa
