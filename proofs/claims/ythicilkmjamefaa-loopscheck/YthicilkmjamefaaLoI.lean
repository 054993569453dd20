/- The program's functions on loops: is one right? how many are there? copies. -/
import Derived.Test.YthicilkmjamefaaLoG
namespace Go.Proofs.Ythicilkmjamefaa
open Go.Gh
set_option linter.unusedVariables false
set_option linter.unusedSimpArgs false

section
variable {k k' : Nat} {v0 : Value} {t : Tab} {x : LoopD} {H0 H : GH} {p2 p3 : Value}
theorem nothas_ok {S : Idn → Prop} (hS : ∀ q, S q → 0 ≤ q.1 ∧ q.1 ≤ 255) (hs : SlR tyTab H0 v0 t) (h2 : PtC H0 p2 [v0]) : PredOk (k + 2) (.func (.func 144) #[] #[p2]) (fun q => !hasB t q) H0 S := by
  intro q H hE hq
  have hq := hS q hq
  rw [C_clos T144]
  show Ev (gFunc Try.prog (C (k + 1)) (k + 1) Try.f144 [idV q, p2] H) _
  rw [f144_eq]
  unfold f144_sh
  have hE1 := Ext.push H (.row (Value.cells (idV q)).toList 29 false)
  have hp := PtC.new H (Value.cells (idV q)).toList 29 false
  have hp : PtC (H.push (.row (Value.cells (idV q)).toList 29 false)) (.pointer (some ⟨H.n, 0, none⟩)) (idC q) := hp
  simp only [((h2.mono hE).mono hE1).load1 ld58, onV_s, id_ld hp]
  refine Ev.call0 (has_ok ((hs.mono hE).mono hE1) hq) fun w H2 ⟨h1, h2⟩ => ?_
  simp only at h1 h2
  subst h2
  simp only [not_b, onV_s]
  exact Ev.mk ⟨hE1.trans h1, rfl⟩
/-- Does nothing speak against the loop? -/
def Wrong (t : Tab) (x : LoopD) : Prop := 1 < x.bed ∨ 4 < x.thr.length ∨ badPs t x ∨ badTh t x
theorem rt_r9 (hk : 2000 ≤ k) (hs : SlR tyTab H v0 t) (h2 : PtC H p2 [v0]) (h3 : LpAt H p3 x) (hx : x.thr.length ≤ 1000) : Ev (f78_r9 (C (k + 4)) k' p2 p3 H) fun r => Ext H r.2 ∧ ∃ b, r.1 = .bool b ∧ (b = true ↔ ¬ badTh t x) := by
  unfold f78_r9
  obtain ⟨q0, q1, q2, q3, vT, vP, a0, b0, a1, b1, a2, b2, a3, b3, s1, s2⟩ := lp_f h3
  simp only [a2, b2, onV_s]
  refine Ev.call0 (contf_ok (k := k + 2) (nothas_ok (fun q hq => hq.2) hs h2) (by omega) (by omega) s1) fun w H' ⟨hE, hw⟩ => ?_
  simp only at hE hw
  subst hw
  simp only [not_b, onV_s]
  refine Ev.mk ⟨hE, _, rfl, ?_⟩
  unfold badTh
  simp only [Bool.not_eq_true', List.any_eq_false]
  constructor
  · rintro h ⟨q, hq, hb⟩
    exact h q hq (by simp [hb])
  · intro h q hq hb
    exact h ⟨q, hq, by simpa using hb⟩
theorem rt_l4 (hk : 2000 ≤ k) (hs : SlR tyTab H0 v0 t) (h2 : PtC H0 p2 [v0]) (h3 : LpAt H0 p3 x) (hx : x.thr.length ≤ 1000) (hxp : x.past.length ≤ 1000) {vP : Value} (hP : SlR tyPa H0 vP x.past)
    (hnc : ¬ ∃ i p q, x.past[i]? = some p ∧ prevOf x.past i = some q ∧ cancels q p ∧ ∀ p ∈ x.past, p.dir ≤ 1) : ∀ (r i : Nat) (H : GH), i ≤ x.past.length → x.past.length - i < r → Ext H0 H → (∀ n p, n < i → x.past[n]? = some p → p.dir ≤ 1 ∧ hasB t p.id = true) →
      Ev (f78_l4 (C (k + 4)) k' r p2 p3 vP (.int .i64 x.past.length) (.int .i64 i) H) fun r => Ext H0 r.2 ∧ ∃ b, r.1 = .bool b ∧ (b = true ↔ ¬ (badPs t x ∨ badTh t x)) := by
  intro r
  induction r with
  | zero => intro i H _ h; omega
  | succ r ih =>
    intro i H hi hr hE hall
    show Ev (f78_l4b (C (k + 4)) k' (f78_l4 (C (k + 4)) k' r) p2 p3 vP (.int .i64 x.past.length) (.int .i64 i) H) _
    unfold f78_l4b
    simp only [bin_lss, onV_s, asB_b, onBool_d]
    by_cases hlt : i < x.past.length
    · rw [if_pos (by omega)]
      obtain ⟨q, e1, e2, e3⟩ := pa_at (hP.mono hE) (k := .i64) hlt
      obtain ⟨H1, f1, f2, f3, f4⟩ := box (P := Try.prog) (t := 157) (H := H) (v := .agg (paC x.past[i]).toArray) (cs := paC x.past[i]) (row := [(.int .u8 0), (.int .i64 0), (.bool false), (.int .u8 0)]) (e := 157) (gSize_ld ld157) rfl rfl rfl
      simp only [e1, onV_s, pa_ld e2, f1, onH_s]
      have hE1 := hE.trans f2
      have hp6 := PtC.of f3
      have hxi : x.past[i]? = some x.past[i] := List.getElem?_eq_getElem hlt
      unfold f78_r6
      obtain ⟨w0, w1, w2, c0, d0, c1, d1, c2, d2⟩ := pa_f hp6
      simp only [c2, d2, onV_s, bin_gtr]
      unfold f78_g6_4
      simp only [asB_b, onBool_d]
      by_cases hd : 1 < x.past[i].dir
      · rw [if_pos hd]
        exact Ev.mk ⟨hE1, false, rfl, by simp only [Bool.false_eq_true, false_iff, Classical.not_not]; exact .inl ⟨i, _, hxi, .inl hd⟩⟩
      rw [if_neg hd]
      simp only [(h2.mono hE1).load1 ld58, c0, id_ld d0, onV_s]
      refine Ev.call0 (has_ok (hs.mono hE1) e3) fun w H2 ⟨hE', hw⟩ => ?_
      simp only at hE' hw
      subst hw
      simp only [not_b, onV_s, asB_b, onBool_i]
      cases hh : hasB t x.past[i].id with
      | false =>
        simp only [Bool.not_false, if_true]
        exact Ev.mk ⟨hE1.trans hE', false, rfl, by simp only [Bool.false_eq_true, false_iff, Classical.not_not]; exact .inl ⟨i, _, hxi, .inr (.inl hh)⟩⟩
      | true =>
        simp only [Bool.not_true, Bool.false_eq_true, if_false, bin_add, onV_s]
        rw [wrS (by omega)]
        refine ih (i + 1) H2 (by omega) (by omega) (hE1.trans hE') fun n p hn hp => ?_
        rcases Nat.lt_or_ge n i with h | h
        · exact hall n p h hp
        · have hni : n = i := by omega
          subst hni
          rw [hxi] at hp
          have hp := Option.some.inj hp
          rw [← hp]
          exact ⟨by omega, hh⟩
    · rw [if_neg (by omega)]
      refine (rt_r9 hk (hs.mono hE) (h2.mono hE) (h3.mono hE) hx).mono fun r ⟨hE', b, hb, hiff⟩ => ⟨hE.trans hE', b, hb, ?_⟩
      rw [hiff]
      have hnb : ¬ badPs t x := by
        rintro ⟨n, p, hn, hb⟩
        have hlt' := (List.getElem?_eq_some_iff.1 hn).1
        obtain ⟨g1, g2⟩ := hall n p (by omega) hn
        rcases hb with hb | hb | ⟨q, hq, hc⟩
        · omega
        · rw [g2] at hb; cases hb
        · refine hnc ⟨n, p, q, hn, hq, hc, fun p' hp' => ?_⟩
          obtain ⟨m, hm, he⟩ := List.getElem_of_mem hp'
          exact (hall m p' (by omega) (by rw [List.getElem?_eq_getElem hm, he])).1
      constructor
      · rintro h (h' | h')
        · exact hnb h'
        · exact h h'
      · intro h h'; exact h (.inr h')
theorem right_ok (hk : 5000 ≤ k) (hs : SlR tyTab H v0 t) {cs : List Value} (hx : tyLp.rep H cs x) (hxt : x.thr.length ≤ 1000) (hxp : x.past.length ≤ 1000) :
    Ev (C (k + 5) (.func (.func 78) #[] #[]) [v0, .agg cs.toArray] H) fun r => Ext H r.2 ∧ ∃ b, r.1 = .bool b ∧ (b = true ↔ ¬ Wrong t x) := by
  rw [C_func T78, f78_eq]
  unfold f78_sh
  have hv0 : (Value.cells v0).toList = [v0] := by obtain ⟨a, c, rfl⟩ := hs.val; rfl
  have hcs : (Value.cells (.agg cs.toArray)).toList = cs := rfl
  rw [hv0, hcs]
  have hE : Ext H ((H.push (.row [v0] 58 false)).push (.row cs 62 false)) := (Ext.push _ _).push' _
  have h2 : PtC ((H.push (.row [v0] 58 false)).push (.row cs 62 false)) (.pointer (some ⟨H.n, 0, none⟩)) [v0] := (PtC.new H _ _ _).mono (Ext.push _ _)
  have h3 : LpAt ((H.push (.row [v0] 58 false)).push (.row cs 62 false)) (.pointer (some ⟨(H.push (.row [v0] 58 false)).n, 0, none⟩)) x := ⟨cs, PtC.new _ _ _ _, tyLp.mono hE hx⟩
  have hs := hs.mono hE
  revert hE h2 h3 hs
  generalize (.pointer (some ⟨(H.push (.row [v0] 58 false)).n, 0, none⟩) : Value) = p3
  generalize (.pointer (some ⟨H.n, 0, none⟩) : Value) = p2
  generalize (H.push (.row [v0] 58 false)).push (.row cs 62 false) = H1
  intro hE h2 h3 hs
  unfold f78_r1
  obtain ⟨q0, q1, q2, q3, vT, vP, a0, b0, a1, b1, a2, b2, a3, b3, s1, s2⟩ := lp_f h3
  simp only [a0, b0, onV_s, bin_gtr]
  unfold f78_g1_4
  simp only [asB_b, onBool_d]
  have hwr : Wrong t x → ∀ H', Ext H H' → Ev (some [((.bool false : Value), H')]) fun r => Ext H r.2 ∧ ∃ b, r.1 = .bool b ∧ (b = true ↔ ¬ Wrong t x) :=
    fun hw H' hE' => Ev.mk ⟨hE', false, rfl, by simp [hw]⟩
  by_cases c1 : 1 < x.bed
  · rw [if_pos c1]
    unfold f78_r2
    exact hwr (.inl c1) _ hE
  rw [if_neg c1]
  simp only [a2, b2, onV_s, s1.oLen u26, bin_gtr]
  unfold f78_g1_10
  simp only [asB_b, onBool_d]
  by_cases c2 : 4 < x.thr.length
  · rw [if_pos (by omega)]
    unfold f78_r2
    exact hwr (.inr (.inl c2)) _ hE
  rw [if_neg (by omega)]
  simp only [a3, b3, onV_s, s2.oLen u60, bin_gtr]
  unfold f78_g1_16
  simp only [asB_b, onBool_d]
  rw [if_neg (by omega)]
  have a3o := a3
  simp only [a3, b3, onV_s]
  refine Ev.call 2 (R := fun v _ => ∃ a c, v = .slice a (red [] x.past).length c) (Sp.of (fun lo => reduce_ok (k := k + 2) (by omega) (s2.lo gets_pa) hxp) (fun _ _ _ h => h)) fun w H2 hE' ⟨a, c, hw⟩ => ?_
  subst hw
  have hE2 := hE.trans hE'
  have h32 := h3.mono hE'
  obtain ⟨q0, q1, q2, q3, vT, vP, a0, b0, a1, b1, a2, b2, a3, b3, s1, s2⟩ := lp_f h32
  have e3 := Option.some.inj (a3o.symm.trans a3)
  subst e3
  have ho : oLen Try.prog 60 (.slice a (red [] x.past).length c) = some (.int .i64 (red [] x.past).length) := by unfold oLen; rw [u60]
  simp only [b3, onV_s, s2.oLen u60, ho, bin_neq, asB_b, onBool_d]
  by_cases c3 : (red [] x.past).length = x.past.length
  · rw [if_neg (by omega)]
    unfold f78_r3
    simp only [a3, b3, onV_s, s2.oLen u60]
    have hrest := rt_l4 (k := k) (k' := k + 4) (by omega) (hs.mono hE') (h2.mono hE') h32 hxt hxp s2 (fun ⟨i, p, q, hp, hq, hc, hd⟩ => ?_) (k + 4) 0 H2 (by omega) (by omega) (.refl _) (fun n p hn => by omega)
    · refine hrest.mono fun r ⟨hE3, b, hb, hiff⟩ => ⟨hE2.trans hE3, b, hb, ?_⟩
      rw [hiff]
      unfold Wrong
      constructor
      · rintro h (h' | h' | h' | h')
        · exact c1 h'
        · exact c2 h'
        · exact h (.inl h')
        · exact h (.inr h')
      · rintro h (h' | h')
        · exact h (.inr (.inr (.inl h')))
        · exact h (.inr (.inr (.inr h')))
    · exact (red_full (fun p hp => ⟨pa_dir s2 p hp, hd p hp⟩)).1 c3 ⟨i, p, q, hp, hq, hc⟩
  · rw [if_pos (by omega)]
    refine hwr ?_ _ hE2
    by_cases hd : ∀ p ∈ x.past, p.dir ≤ 1
    · have := (not_congr (red_full (fun p hp => ⟨pa_dir s2 p hp, hd p hp⟩))).1 c3
      rw [Classical.not_not] at this
      obtain ⟨i, p, q, hp, hq, hc⟩ := this
      exact .inr (.inr (.inl ⟨i, p, hp, .inr (.inr ⟨q, hq, hc⟩)⟩))
    · obtain ⟨p, hp⟩ := Classical.not_forall.1 hd
      obtain ⟨hp1, hp2⟩ := Classical.not_imp.1 hp
      obtain ⟨i, hi, he⟩ := List.getElem_of_mem hp1
      exact .inr (.inr (.inl ⟨i, p, by rw [List.getElem?_eq_getElem hi, he], .inl (by omega)⟩))
/-- How many loops there are. -/
def cnt (t : Tab) : Nat := (t.map List.length).sum
theorem cn_l3 (hs : SlR tyTab H v0 t) (ht : t.length ≤ 1000) : ∀ (r i c : Nat), i ≤ t.length → t.length - i < r → c + cnt (t.drop i) ≤ 1000000 → Ev (f73_l3 (C k) k' r (.int .i64 c) v0 (.int .i64 t.length) (.int .i64 i) H) fun z => z = (.int .i64 (c + cnt (t.drop i) : Nat), H) := by
  intro r
  induction r with
  | zero => intro i c _ h; omega
  | succ r ih =>
    intro i c hi hr hc
    show Ev (f73_l3b (C k) k' (f73_l3 (C k) k' r) (.int .i64 c) v0 (.int .i64 t.length) (.int .i64 i) H) _
    unfold f73_l3b
    simp only [bin_lss, onV_s, asB_b, onBool_d]
    by_cases hlt : i < t.length
    · rw [if_pos (by omega)]
      obtain ⟨p, lv, e1, e2, e3⟩ := tb_at hs (k := .i64) hlt
      have hd : cnt (t.drop i) = t[i].length + cnt (t.drop (i + 1)) := by
        unfold cnt; rw [List.drop_eq_getElem_cons hlt, List.map_cons, List.sum_cons]
      rw [hd] at hc
      simp only [e1, e2, onV_s, e3.oLen u59, bin_add]
      rw [wrS (by omega), Go.IntWalk.i64_in _ (by omega), show ((c : Int) + (t[i].length : Int)) = ((c + t[i].length : Nat) : Int) by omega]
      refine (ih (i + 1) (c + t[i].length) (by omega) (by omega) (by omega)).mono fun z hz => ?_
      rw [hz, hd, Nat.add_assoc]
    · rw [if_neg (by omega), List.drop_eq_nil_of_le (by omega)]
      exact Ev.mk rfl
theorem count_ok (hk : 1000 < k) (hs : SlR tyTab H v0 t) (ht : t.length ≤ 1000) (hc : cnt t ≤ 1000000) : Ev (C (k + 1) (.func (.func 73) #[] #[]) [v0] H) fun z => z = (.int .i64 (cnt t), H) := by
  rw [C_func T73, f73_eq]
  unfold f73_sh
  simp only [hs.oLen u58, onV_s]
  refine (cn_l3 hs ht k 0 0 (by omega) (by omega) (by simpa using hc)).mono fun z hz => ?_
  rw [hz]
  simp
end
end Go.Proofs.Ythicilkmjamefaa
/- The program's order: whatever can be made, in the first order. -/
namespace Go.Proofs.Ythicilkmjamefaa
open Go.Gh
set_option linter.unusedVariables false
set_option linter.unusedSimpArgs false

/-- What the variables of 'order' hold. -/
structure OrdI (H0 : GH) (v0 : Value) (b1 b3 b4 b5 : Nat) (D : List Nat) (H : GH) : Prop where
  ext : Ext H0 H
  g1 : H.get b1 = some (.row [v0] 58 false)
  g3 : H.get b3 = some (.row (inC D.tail) 3 false)
  g4 : H.get b4 = some (.row [.slice (some ⟨b3, 0, none⟩) 6 6] 71 false)
  g5 : H.get b5 = some (.row [.func (.func 139) #[] #[.pointer (some ⟨b1, 0, none⟩), .pointer (some ⟨b4, 0, none⟩)]] 113 false)
  b0 : H0.n ≤ b3
  len : D.length = 7
theorem OrdI.mono {H0 H H' : GH} {v0 : Value} {b1 b3 b4 b5 : Nat} {D : List Nat} (h : OrdI H0 v0 b1 b3 b4 b5 D H) (hE : Ext H H') : OrdI H0 v0 b1 b3 b4 b5 D H' :=
  ⟨h.ext.trans hE, hE.get_of h.g1, hE.get_of h.g3, hE.get_of h.g4, hE.get_of h.g5, h.b0, h.len⟩
theorem tail_get {D : List Nat} (hl : D.length = 7) {y : Nat} : D.tail.getD y 0 = D.getD (y + 1) 0 := by
  simp only [List.getD_eq_getElem?_getD, List.getElem?_tail]
section
variable {k k' : Nat} {v0 : Value} {t : Tab} {H0 H : GH} {b1 b3 b4 b5 : Nat} {D : List Nat}
/-- How a number of 'done' is read and set. -/
theorem done_at {H : GH} (hg : H.get b3 = some (.row (inC D.tail) 3 false)) (hl : D.length = 7) {kk : IntKind} {y : Nat} (hy : y < 6) (n : Nat) :
    ∃ q, oIndexAddr Try.prog 71 (.slice (some ⟨b3, 0, none⟩) 6 6) (.int kk y) = some q ∧ gLoad Try.prog 3 q H = some (.int .i64 (D.getD (y + 1) 0)) ∧ gStore Try.prog 3 q (.int .i64 n) H = some (H.set b3 (.row (inC (D.set (y + 1) n).tail) 3 false)) := by
  have hgs : gSize Try.prog 3 = some 1 := (ldOk_spec ld3).2.2
  have hlen : (inC D.tail).length = 6 := by simp [inC, hl]
  refine ⟨.pointer (some ⟨b3, y, none⟩), ?_, ?_, ?_⟩
  · unfold oIndexAddr
    simp only [u71]
    rw [if_pos ⟨by omega, by omega⟩, hgs]
    simp only [Option.map_some, Int.toNat_natCast, Nat.mul_one]
    unfold Addr.add
    by_cases h0 : y = 0
    · simp [h0]
    · simp [h0]
  · refine PtC.load1 (P := Try.prog) (t := 3) ⟨b3, y, _, _, _, rfl, hg, by simp only [List.length_cons, List.length_nil]; omega, ?_⟩ ld3
    have h2 : (inC D.tail)[y]? = some (.int .i64 (D.getD (y + 1) 0)) := by
      have hlt : y < D.tail.length := by rw [List.length_tail]; omega
      rw [in_get hlt, ← tail_get hl, List.getD_eq_getElem?_getD, List.getElem?_eq_getElem hlt]; rfl
    rw [List.length_singleton, List.drop_eq_getElem_cons (by omega), List.take_succ_cons, List.take_zero, (List.getElem?_eq_some_iff.1 h2).2]
  · rw [store1 hg hgs rfl rfl (by omega)]
    have e9 : (inC D.tail).set y (.int .i64 (n : Int)) = inC (D.set (y + 1) n).tail := by
      unfold inC
      obtain ⟨a, d, rfl⟩ : ∃ a d, D = a :: d := by cases D with | nil => simp at hl | cons a d => exact ⟨a, d, rfl⟩
      simp only [List.tail_cons, List.set_cons_succ, List.map_set]
    rw [e9]
theorem is_ok {q : Idn} (hs : SlR tyTab H0 v0 t) (ht : t.length = 6) (hI : OrdI H0 v0 b1 b3 b4 b5 D H) (hq : 1 ≤ q.1 ∧ q.1 ≤ 6) :
    Ev (C (k + 1) (.func (.func 139) #[] #[.pointer (some ⟨b1, 0, none⟩), .pointer (some ⟨b4, 0, none⟩)]) [idV q] H) fun r => Ext H r.2 ∧ r.1 = .bool (!nr D q) := by
  rw [C_clos T139]
  show Ev (gFunc Try.prog (C k) k Try.f139 [idV q, .pointer (some ⟨b1, 0, none⟩), .pointer (some ⟨b4, 0, none⟩)] H) _
  rw [f139_eq]
  unfold f139_sh
  have hE1 := Ext.push H (.row (Value.cells (idV q)).toList 29 false)
  have hp : PtC (H.push (.row (Value.cells (idV q)).toList 29 false)) (.pointer (some ⟨H.n, 0, none⟩)) (idC q) := PtC.new H _ _ _
  have hI1 := hI.mono hE1
  have hs1 := (hs.mono hI1.ext)
  revert hE1 hp hI1 hs1
  generalize H.push (.row (Value.cells (idV q)).toList 29 false) = H1
  intro hE1 hp hI1 hs1
  unfold f139_r1
  obtain ⟨w0, w1, a0, c0, a1, c1⟩ := id_f hp
  simp only [a0, c0, onV_s, conv53 (i := q.1) (by omega), (PtC.of hI1.g1).load1 ld58, hs1.oLen u58, bin_leq]
  unfold f139_g1_7
  simp only [asB_b, onBool_d]
  rw [if_pos (by omega)]
  obtain ⟨p, e1, e2, _⟩ := done_at hI1.g3 hI1.len (kk := .u8) (y := (q.1 - 1).toNat) (by omega) 0
  simp only [a0, a1, c0, c1, onV_s, (PtC.of hI1.g4).load1 ld71, bin_sub]
  rw [Go.IntWalk.u8_in _ (by omega), show q.1 - 1 = (((q.1 - 1).toNat : Nat) : Int) by omega]
  simp only [e1, e2, onV_s, bin_lss]
  refine Ev.mk ⟨hE1, ?_⟩
  unfold nr
  rw [show (q.1 - 1).toNat + 1 = q.1.toNat by omega]
  by_cases h : q.2 < ((D.getD q.1.toNat 0 : Nat) : Int)
  · rw [decide_eq_true h, decide_eq_false (by omega)]; rfl
  · rw [decide_eq_false h, decide_eq_true (by omega)]; rfl
theorem notis_ok (hs : SlR tyTab H0 v0 t) (ht : t.length = 6) (hI : OrdI H0 v0 b1 b3 b4 b5 D H) {S : Idn → Prop} (hS : ∀ q, S q → 1 ≤ q.1 ∧ q.1 ≤ 6) : PredOk (k + 2) (.func (.func 140) #[] #[.pointer (some ⟨b5, 0, none⟩)]) (nr D) H S := by
  intro q H' hE hq
  have hq := hS q hq
  rw [C_clos T140]
  show Ev (gFunc Try.prog (C (k + 1)) (k + 1) Try.f140 [idV q, .pointer (some ⟨b5, 0, none⟩)] H') _
  rw [f140_eq]
  unfold f140_sh
  have hE1 := Ext.push H' (.row (Value.cells (idV q)).toList 29 false)
  have hp : PtC (H'.push (.row (Value.cells (idV q)).toList 29 false)) (.pointer (some ⟨H'.n, 0, none⟩)) (idC q) := PtC.new H' _ _ _
  have hI1 := (hI.mono hE).mono hE1
  simp only [(PtC.of hI1.g5).load1 ld113, onV_s, id_ld hp]
  refine Ev.call0 (is_ok (k := k) hs ht hI1 hq) fun w H2 ⟨h1, h2⟩ => ?_
  simp only at h1 h2
  subst h2
  simp only [not_b, onV_s, Bool.not_not]
  exact Ev.mk ⟨hE1.trans h1, rfl⟩
theorem notisp_ok (hs : SlR tyTab H0 v0 t) (ht : t.length = 6) (hI : OrdI H0 v0 b1 b3 b4 b5 D H) {S : PassD → Prop} (hS : ∀ q, S q → 1 ≤ q.id.1 ∧ q.id.1 ≤ 6) : PredPa (k + 2) (.func (.func 142) #[] #[.pointer (some ⟨b5, 0, none⟩)]) (fun p => nr D p.id) H S := by
  intro q H' hE hq
  have hq := hS q hq
  rw [C_clos T142]
  show Ev (gFunc Try.prog (C (k + 1)) (k + 1) Try.f142 [paV q, .pointer (some ⟨b5, 0, none⟩)] H') _
  rw [f142_eq]
  unfold f142_sh
  have hE1 := Ext.push H' (.row (Value.cells (paV q)).toList 157 false)
  have hp : PtC (H'.push (.row (Value.cells (paV q)).toList 157 false)) (.pointer (some ⟨H'.n, 0, none⟩)) (idC q.id) := ⟨H'.n, 0, _, _, _, rfl, GH.get_push_new, by simp [paV, paC, idC, Value.cells], rfl⟩
  have hI1 := (hI.mono hE).mono hE1
  simp only [(PtC.of hI1.g5).load1 ld113, onV_s, id_ld hp]
  refine Ev.call0 (is_ok (k := k) hs ht hI1 hq) fun w H2 ⟨h1, h2⟩ => ?_
  simp only at h1 h2
  subst h2
  simp only [not_b, onV_s, Bool.not_not]
  exact Ev.mk ⟨hE1.trans h1, rfl⟩

/-- The slice of names is none of the other variables'. -/
def Apart (v : Value) (b1 b3 b4 b5 : Nat) : Prop := ∀ b, blkOf v = some b → b ≠ b1 ∧ b ≠ b3 ∧ b ≠ b4 ∧ b ≠ b5
theorem build26_1 {H : GH} {q : Idn} : gBuildSlice Try.prog 26 1 [(0, idV q)] H = some (.slice (some ⟨H.n, 0, none⟩) 1 1, H.push (.row (idC q) 29 false)) := by kernel_rfl
theorem od_l5 (hk : 3000 ≤ k) (hb : ¬ Bad t) (hrow : ∀ l ∈ t, l.length ≤ 13) (hsm : ∀ l ∈ t, ∀ x ∈ l, x.thr.length ≤ 1000 ∧ x.past.length ≤ 1000) (ht : t.length = 6) (hs : SlR tyTab H0 v0 t) {Q : Value × GH → Prop} {v3 : Value} {ids : List Idn} {sg4 : Value → Value → Value → Value → GH → M (Value × GH)} (hR : Reach t D) (hids : ids.length = sumD D)
    (hgo : ∀ y v' ids' H', y < 6 → Can t D y → OrdI H0 v0 b1 b3 b4 b5 (bump D y) H' → Own tyId 29 H0 H' v' ids' → ids'.length = ids.length + 1 → Apart v' b1 b3 b4 b5 → Ev (sg4 (.pointer (some ⟨b1, 0, none⟩)) v' (.pointer (some ⟨b4, 0, none⟩)) (.pointer (some ⟨b5, 0, none⟩)) H') Q)
    (hend : Stuck t D → ∀ H', OrdI H0 v0 b1 b3 b4 b5 D H' → Own tyId 29 H0 H' v3 ids → Q (v3, H')) :
    ∀ (r y : Nat) (H : GH), y ≤ 6 → 6 - y < r → OrdI H0 v0 b1 b3 b4 b5 D H → Own tyId 29 H0 H v3 ids → Apart v3 b1 b3 b4 b5 → (∀ z, z < y → ¬ Can t D z) →
      Ev (f77_l5 (C (k + 4)) k' sg4 r (.pointer (some ⟨b1, 0, none⟩)) v3 (.pointer (some ⟨b4, 0, none⟩)) (.pointer (some ⟨b5, 0, none⟩)) v0 (.int .i64 (6 : Nat)) (.int .i64 y) H) Q := by
  intro r
  induction r with
  | zero => intro y H _ h; omega
  | succ r ih =>
    intro y H hy hr hI ho ha hall
    show Ev (f77_l5b (C (k + 4)) k' sg4 (f77_l5 (C (k + 4)) k' sg4 r) (.pointer (some ⟨b1, 0, none⟩)) v3 (.pointer (some ⟨b4, 0, none⟩)) (.pointer (some ⟨b5, 0, none⟩)) v0 (.int .i64 (6 : Nat)) (.int .i64 y) H) Q
    unfold f77_l5b
    simp only [bin_lss, onV_s, asB_b, onBool_d]
    by_cases hlt : y < 6
    · rw [if_pos (by omega)]
      have hyt : y < t.length := by omega
      have hty : t[y]? = some t[y] := List.getElem?_eq_getElem hyt
      have hmem : t[y] ∈ t := List.getElem_mem hyt
      -- on, with the next yarn
      have hnext : ∀ H2, OrdI H0 v0 b1 b3 b4 b5 D H2 → Own tyId 29 H0 H2 v3 ids → ¬ Can t D y → Ev (f77_l5 (C (k + 4)) k' sg4 r (.pointer (some ⟨b1, 0, none⟩)) v3 (.pointer (some ⟨b4, 0, none⟩)) (.pointer (some ⟨b5, 0, none⟩)) v0 (.int .i64 (6 : Nat)) (.int .i64 (y + 1 : Nat)) H2) Q := fun H2 hI2 ho2 hn =>
        ih (y + 1) H2 (by omega) (by omega) hI2 ho2 ha fun z hz => by
          rcases Nat.lt_or_ge z y with h | h
          · exact hall z h
          · have hzy : z = y := by omega
            rw [hzy]; exact hn
      obtain ⟨p, lv, e1, e2, e3⟩ := tb_at (hs.mono hI.ext) (k := .i64) hyt
      simp only [e1, e2, onV_s]
      unfold f77_r7
      obtain ⟨q, g1, g2, _⟩ := done_at hI.g3 hI.len (kk := .i64) (y := y) hlt 0
      simp only [bin_add, onV_s]
      rw [wrS (by omega)]
      simp only [conv35 (i := ((y + 1 : Nat) : Int)) (by omega), onV_s, (PtC.of hI.g4).load1 ld71, g1, g2, build29]
      obtain ⟨H1, f1, f2, f3, f4⟩ := box (P := Try.prog) (t := 29) (H := H) (v := idV (((y + 1 : Nat) : Int), (D.getD (y + 1) 0 : Int))) (cs := idC (((y + 1 : Nat) : Int), (D.getD (y + 1) 0 : Int))) (row := [(.int .u8 0), (.int .i64 0)]) (e := 29) (gSize_ld ld29) rfl rfl rfl
      simp only [f1, onH_s]
      have hI1 := hI.mono f2
      have ho1 := Own.ext ho f2
      have hp8 := PtC.of f3
      revert hI1 ho1 hp8
      clear f1 f3
      generalize (.pointer (some ⟨H.n, 0, none⟩) : Value) = p8
      intro hI1 ho1 hp8
      unfold f77_r8
      obtain ⟨w0, w1, a0, c0, a1, c1⟩ := id_f hp8
      simp only [a1, c1, onV_s, e3.oLen u59, bin_eql, asB_b, onBool_d]
      have hle := hR.le y _ hlt hty
      by_cases hfull : D.getD (y + 1) 0 = t[y].length
      · rw [if_pos (by omega)]
        simp only [bin_add, onV_s]
        rw [wrS (by omega)]
        refine hnext H1 hI1 ho1 fun ⟨l, x, d1, d2, _⟩ => ?_
        rw [hty] at d1
        have d1 := Option.some.inj d1
        rw [← d1] at d2
        have := (List.getElem?_eq_some_iff.1 d2).1
        omega
      · rw [if_neg (by omega)]
        have hln : D.getD (y + 1) 0 < t[y].length := by omega
        obtain ⟨q9, g3, g4⟩ := lp_at (e3.mono f2) (k := .i64) hln
        obtain ⟨cs, g5, g6, g7, g8⟩ := lp_ld g4
        obtain ⟨H2, k1, k2, k3, k4⟩ := box (P := Try.prog) (t := 62) (H := H1) (v := .agg cs.toArray) (cs := cs) (row := [(.int .u8 0), (.bool false), (.slice none 0 0), (.slice none 0 0)]) (e := 62) (gSize_ld ld62) rfl g7 g8
        simp only [a1, c1, onV_s, g3, g5, k1, onH_s]
        have hI2 := hI1.mono k2
        have ho2 := Own.ext ho1 k2
        have hp82 := hp8.mono k2
        have hx : t[y][D.getD (y + 1) 0]? = some t[y][D.getD (y + 1) 0] := List.getElem?_eq_getElem hln
        have hp9 : LpAt H2 (.pointer (some ⟨H1.n, 0, none⟩)) t[y][D.getD (y + 1) 0] := ⟨cs, PtC.of k3, tyLp.mono k2 g6⟩
        obtain ⟨hi1, hi2⟩ := ids_ok hb ht hty hx
        obtain ⟨hn1, hn2⟩ := hsm _ hmem _ (List.getElem_mem hln)
        revert hp9
        clear k1 k3
        generalize (.pointer (some ⟨H1.n, 0, none⟩) : Value) = p9
        intro hp9
        generalize hxe : t[y][D.getD (y + 1) 0] = x at hx hp9 hi1 hi2 hn1 hn2
        unfold f77_r10
        obtain ⟨q0, q1, q2, q3, vT, vP, z0, y0, z1, y1, z2, y2, z3, y3, s1, s2⟩ := lp_f hp9
        simp only [z2, y2, onV_s]
        refine Ev.call0 (contf_ok (k := k + 2) (notis_ok hs ht hI2 fun q hq => by have := hi1 q hq.1; omega) (by omega) (by omega) s1) fun w H3 ⟨hE3, hw⟩ => ?_
        simp only at hE3 hw
        subst hw
        have hI3 := hI2.mono hE3
        have ho3 := Own.ext ho2 hE3
        have hp83 := hp82.mono hE3
        have hp93 := hp9.mono hE3
        unfold f77_g10_5
        simp only [asB_b, onBool_i]
        by_cases h1 : x.thr.any (nr D) = true
        · rw [if_pos h1]
          simp only [bin_add, onV_s]
          rw [wrS (by omega)]
          refine hnext H3 hI3 ho3 fun ⟨l, x', d1, d2, d3, _⟩ => ?_
          rw [hty] at d1
          have d1 := Option.some.inj d1
          rw [← d1, hx] at d2
          have d2 := Option.some.inj d2
          rw [← d2] at d3
          obtain ⟨q, hq, hq2⟩ := List.any_eq_true.1 h1
          rw [d3 q hq] at hq2
          cases hq2
        rw [if_neg h1]
        obtain ⟨q0', q1', q2', q3', vT', vP', z0', y0', z1', y1', z2', y2', z3', y3', s1', s2'⟩ := lp_f hp93
        simp only [z3', y3', onV_s]
        refine Ev.call0 (contp_ok (k := k + 2) (notisp_ok hs ht hI3 fun q hq => by have := hi2 q hq.1; omega) (by omega) (by omega) s2') fun w H4 ⟨hE4, hw⟩ => ?_
        simp only at hE4 hw
        subst hw
        have hI4 := hI3.mono hE4
        have ho4 := Own.ext ho3 hE4
        have hp84 := hp83.mono hE4
        simp only [asB_b, onBool_i]
        by_cases h2 : x.past.any (fun p => nr D p.id) = true
        · rw [if_pos h2]
          simp only [bin_add, onV_s]
          rw [wrS (by omega)]
          refine hnext H4 hI4 ho4 fun ⟨l, x', d1, d2, _, d3⟩ => ?_
          rw [hty] at d1
          have d1 := Option.some.inj d1
          rw [← d1, hx] at d2
          have d2 := Option.some.inj d2
          rw [← d2] at d3
          obtain ⟨q, hq, hq2⟩ := List.any_eq_true.1 h2
          rw [d3 q hq] at hq2
          cases hq2
        rw [if_neg h2]
        have hcan : Can t D y := by
          refine ⟨_, x, hty, hx, fun q hq => ?_, fun q hq => ?_⟩
          · cases hh : nr D q with
            | false => rfl
            | true => exact absurd (List.any_eq_true.2 ⟨q, hq, hh⟩) h1
          · cases hh : nr D q.id with
            | false => rfl
            | true => exact absurd (List.any_eq_true.2 ⟨q, hq, hh⟩) h2
        have hE5 := Ext.push H4 (.row (idC (((y + 1 : Nat) : Int), (D.getD (y + 1) 0 : Int))) 29 false)
        have hI5 := hI4.mono hE5
        have hfst : gFirst tyId.sz 1 (.slice (some ⟨H4.n, 0, none⟩) 1 1) (H4.push (.row (idC (((y + 1 : Nat) : Int), (D.getD (y + 1) 0 : Int))) 29 false)) = some (idC (((y + 1 : Nat) : Int), (D.getD (y + 1) 0 : Int))) := by
          unfold gFirst
          simp only [GH.get_push_new]
          rfl
        have hsumle := hR.sum ht hrow
        obtain ⟨v', H6, j1, j2, j3, j4, j5, j6⟩ := Own.append (ys := [(((y + 1 : Nat) : Int), (D.getD (y + 1) 0 : Int))]) (y := .slice (some ⟨H4.n, 0, none⟩) 1 1) hI5.ext (Own.ext ho4 hE5) u26 u26 el29 ⟨_, _, rfl⟩ hfst (.one1 ⟨rfl, by constructor <;> simp only <;> omega⟩) (by simp; omega)
        simp only [id_ld hp84, onV_s, build26_1, onVH_s, j1]
        have l1 := GH.get_lt hI5.g1
        have l3 := GH.get_lt hI5.g3
        have l4 := GH.get_lt hI5.g4
        have l5 := GH.get_lt hI5.g5
        have k1 : H6.get b1 = _ := (j5 b1 l1 fun h => (ha b1 h).1 rfl).trans hI5.g1
        have k3 : H6.get b3 = _ := (j5 b3 l3 fun h => (ha b3 h).2.1 rfl).trans hI5.g3
        have k4 : H6.get b4 = _ := (j5 b4 l4 fun h => (ha b4 h).2.2.1 rfl).trans hI5.g4
        have k5 : H6.get b5 = _ := (j5 b5 l5 fun h => (ha b5 h).2.2.2 rfl).trans hI5.g5
        have ha' : Apart v' b1 b3 b4 b5 := fun b hb => by
          rcases j6 b hb with h | h
          · exact ⟨by omega, by omega, by omega, by omega⟩
          · exact ha b h
        unfold f77_r12
        obtain ⟨q, g1, g2, g3'⟩ := done_at k3 hI.len (kk := .i64) (y := y) hlt (D.getD (y + 1) 0 + 1)
        have h13 := hrow _ hmem
        simp only [(PtC.of k4).load1 ld71, onV_s, g1, g2, bin_add]
        rw [wrS (by omega)]
        simp only [g3', onH_s]
        have hne : b1 ≠ b3 ∧ b4 ≠ b3 ∧ b5 ≠ b3 := by
          refine ⟨fun h => ?_, fun h => ?_, fun h => ?_⟩
          · rw [h, k3] at k1; injection k1 with k1; injection k1 with _ k1 _; cases k1
          · rw [h, k3] at k4; injection k4 with k4; injection k4 with _ k4 _; cases k4
          · rw [h, k3] at k5; injection k5 with k5; injection k5 with _ k5 _; cases k5
        refine hgo y v' _ _ hlt hcan ⟨j2.set hI.b0 (GH.get_lt k3) _, ?_, GH.get_set_same k3, ?_, ?_, hI.b0, ?_⟩ (j3.keep fun b hb => ?_) (by rw [List.length_append, List.length_singleton]) ha'
        · rw [GH.get_set_other (Ne.symm hne.1) (GH.get_lt k3)]; exact k1
        · rw [GH.get_set_other (Ne.symm hne.2.1) (GH.get_lt k3)]; exact k4
        · rw [GH.get_set_other (Ne.symm hne.2.2) (GH.get_lt k3)]; exact k5
        · unfold bump; rw [List.length_set]; exact hI.len
        · exact GH.get_set_other (Ne.symm (ha' b hb).2.1) (GH.get_lt k3)
    · rw [if_neg (by omega)]
      exact Ev.mk (hend (fun z hz => hall z (by omega)) H hI ho)
theorem od_l4 (hk : 3000 ≤ k) (hk' : 100 ≤ k') (hb : ¬ Bad t) (hrow : ∀ l ∈ t, l.length ≤ 13) (hsm : ∀ l ∈ t, ∀ x ∈ l, x.thr.length ≤ 1000 ∧ x.past.length ≤ 1000) (ht : t.length = 6) (hs : SlR tyTab H0 v0 t) :
    ∀ (r : Nat) (D : List Nat) (v3 : Value) (ids : List Idn) (H : GH), 80 < r + sumD D → Reach t D → ids.length = sumD D → OrdI H0 v0 b1 b3 b4 b5 D H → Own tyId 29 H0 H v3 ids → Apart v3 b1 b3 b4 b5 →
      Ev (f77_l4 (C (k + 4)) k' r (.pointer (some ⟨b1, 0, none⟩)) v3 (.pointer (some ⟨b4, 0, none⟩)) (.pointer (some ⟨b5, 0, none⟩)) H) fun z => Ext H0 z.2 ∧ ∃ D ids, Reach t D ∧ Stuck t D ∧ ids.length = sumD D ∧ Cl tyId 29 H0 z.2 z.1 ids := by
  intro r
  induction r with
  | zero => intro D v3 ids H h hR; have := hR.sum ht hrow; omega
  | succ r ih =>
    intro D v3 ids H h hR hids hI ho ha
    show Ev (f77_l4b (C (k + 4)) k' (f77_l4 (C (k + 4)) k' r) (.pointer (some ⟨b1, 0, none⟩)) v3 (.pointer (some ⟨b4, 0, none⟩)) (.pointer (some ⟨b5, 0, none⟩)) H) _
    unfold f77_l4b
    have hlen := (hs.mono hI.ext).oLen u58
    rw [ht] at hlen
    simp only [(PtC.of hI.g1).load1 ld58, onV_s, hlen]
    refine od_l5 hk hb hrow hsm ht hs hR hids (fun y v' ids' H' hy hc hI' ho' hl' ha' => ?_) (fun hS H' hI' ho' => ?_) k' 0 H (by omega) (by omega) hI ho ha fun z hz => by omega
    · have hsb := sum_bump hI.len hy
      exact ih (bump D y) v' ids' H' (by omega) (hR.step hy hc) (by omega) hI' ho' ha'
    · refine ⟨hI'.ext, D, ids, hR, hS, hids, ?_⟩
      rcases ho' with ho' | ⟨b, cs, rfl, q1, q2, q3⟩
      · exact .inl ho'
      · exact .inr ⟨b, _, cs, rfl, q1, q2, q3.flat flat_id, .inl ⟨rfl, by have := hR.sum ht hrow; unfold loose; omega⟩⟩
theorem order_ok (hk : 3000 ≤ k) (hb : ¬ Bad t) (hrow : ∀ l ∈ t, l.length ≤ 13) (hsm : ∀ l ∈ t, ∀ x ∈ l, x.thr.length ≤ 1000 ∧ x.past.length ≤ 1000) (ht : t.length = 6) (hs : SlR tyTab H v0 t) :
    Ev (C (k + 5) (.func (.func 77) #[] #[]) [v0] H) fun z => Ext H z.2 ∧ ∃ D ids, Reach t D ∧ Stuck t D ∧ ids.length = sumD D ∧ Cl tyId 29 H z.2 z.1 ids := by
  rw [C_func T77, f77_eq]
  unfold f77_sh
  have hv0 : (Value.cells v0).toList = [v0] := by obtain ⟨a, c, rfl⟩ := hs.val; rfl
  have hv1 : v0.cells.size = 1 := by obtain ⟨a, c, rfl⟩ := hs.val; rfl
  rw [hv0]
  have hE1 := Ext.push H (.row [v0] 58 false)
  have g1 : (H.push (.row [v0] 58 false)).get H.n = some (.row [v0] 58 false) := GH.get_push_new
  have hlen := (hs.mono hE1).oLen u58
  rw [ht] at hlen
  have hmk : gMakeSlice Try.prog 71 (.int .i64 (6 : Nat)) (.int .i64 (6 : Nat)) (H.push (.row [v0] 58 false)) = some (.slice (some ⟨(H.push (.row [v0] 58 false)).n, 0, none⟩) 6 6, (H.push (.row [v0] 58 false)).push (.row (inC (List.replicate 6 0)) 3 false)) := by kernel_rfl
  simp only [(PtC.of g1).load1 ld58, onV_s, hlen, hmk, onVH_s]
  have g3 : ((H.push (.row [v0] 58 false)).push (.row (inC (List.replicate 6 0)) 3 false)).get (H.push (.row [v0] 58 false)).n = some (.row (inC (List.replicate 6 0)) 3 false) := GH.get_push_new
  have hE2 : Ext H ((H.push (.row [v0] 58 false)).push (.row (inC (List.replicate 6 0)) 3 false)) := hE1.push' _
  have g1 := (Ext.push (H.push (.row [v0] 58 false)) (.row (inC (List.replicate 6 0)) 3 false)).get_of g1
  have hn : H.n ≤ (H.push (.row [v0] 58 false)).n := Nat.le_succ _
  revert g1 g3 hE2 hn
  generalize hb3 : (H.push (.row [v0] 58 false)).n = b3
  generalize ((H.push (.row [v0] 58 false)).push (.row (inC (List.replicate 6 0)) 3 false)) = H2
  intro g3 hE2 g1 hn
  obtain ⟨H3, k1, k2, k3, k4⟩ := box (P := Try.prog) (t := 71) (H := H2) (v := .slice (some ⟨b3, 0, none⟩) 6 6) (cs := [.slice (some ⟨b3, 0, none⟩) 6 6]) (row := [.slice none 0 0]) (e := 71) (gSize_ld ld71) rfl rfl rfl
  simp only [k1, onH_s]
  obtain ⟨H4, m1, m2, m3, m4⟩ := box (P := Try.prog) (t := 113) (H := H3) (v := .func (.func 139) #[] #[.pointer (some ⟨H.n, 0, none⟩), .pointer (some ⟨H2.n, 0, none⟩)]) (cs := [.func (.func 139) #[] #[.pointer (some ⟨H.n, 0, none⟩), .pointer (some ⟨H2.n, 0, none⟩)]]) (row := [.nilFunc]) (e := 113) (gSize_ld ld113) rfl rfl rfl
  simp only [m1, onH_s]
  refine od_l4 (H0 := H) (b1 := H.n) (b3 := b3) (b4 := H2.n) (b5 := H3.n) hk (by omega) hb hrow hsm ht hs (k + 4) (List.replicate 7 0) (.slice none 0 0) [] H4 (by unfold sumD; simp only [rep0]; omega) .zero (by unfold sumD; simp only [rep0]; rfl) ⟨(hE2.trans k2).trans m2, m2.get_of (k2.get_of g1), m2.get_of (k2.get_of g3), m2.get_of k3, m3, hn, by simp⟩ Own.nil fun b hb => by cases hb
end
end Go.Proofs.Ythicilkmjamefaa
