/- The law on tables: for every table it answers true. -/
import Derived.Test.YthicilkmjamefaaLoN
import Derived.Test.YthicilkmjamefaaShL5
namespace Go.Proofs.Ythicilkmjamefaa
open Go.Gh
set_option linter.unusedVariables false
set_option linter.unusedSimpArgs false

/-- The law answers yes. -/
def Yes (x : Value × GH) : Prop := x.1 = .bool true
theorem lives_end {k : Nat} {H : GH} : All (onCall 0 (C (k + 1)) (.func (.func 22) #[] #[]) [] H fun v1 H2 => some [(v1, H2)]) Yes := by
  have h : Ev (C (k + 1) (.func (.func 22) #[] #[]) [] H) fun r => r = (.bool true, H) := by
    rw [C_none N22 rfl]
    exact Ev.mk rfl
  refine All.callE h fun v H' hv => ?_
  injection hv with h1 h2
  subst h1
  exact All.mk rfl
section
variable {k k' : Nat} {v0 : Value} {t : Tab} {H : GH}
theorem ex0 {u v : Value} : oExtract (.tuple #[u, v]) 0 = some u := rfl
theorem ex1 {u v : Value} : oExtract (.tuple #[u, v]) 1 = some v := rfl
theorem law_r13 (hk : 6000 ≤ k) (hs : SlR tyTab H v0 t) (hsm : Small t) : All (f5_r13 (C (k + 9)) k' v0 H) Yes := by
  unfold f5_r13
  refine All.callE (checked_ok (k := k + 7) (by omega) hs hsm) fun v H2 h => ?_
  obtain ⟨hE, hv⟩ := h
  have hE : Ext H H2 := hE
  have hv : v = .int .i64 (chk t) := hv
  subst hv
  refine All.call0 (order_pub (k := k + 1) (by omega) (hs.mono hE) hsm.med) fun v H4 h => ?_
  obtain ⟨hE2, w, hv⟩ := h
  have hE2 : Ext H2 H4 := hE2
  have hv : v = .tuple #[w, .int .i64 (chk t)] := hv
  subst hv
  simp only [ex0, ex1, onV_s]
  unfold f5_r15
  have hE4 := hE.trans hE2
  refine All.call0 (check_ok (k := k + 2) (by omega) (hs.mono hE4) hsm.med) fun v H5 h => ?_
  obtain ⟨hE3, hv⟩ := h
  have hE3 : Ext H4 H5 := hE3
  have hv : v = .int .i64 (chk t) := hv
  subst hv
  have hE5 := hE4.trans hE3
  have hs5 := hs.mono hE5
  simp only [bin_neq, onV_s]
  unfold f5_g15_5
  simp only [asB_b, onBool_d]
  rw [if_neg (by omega)]
  simp only [bin_neq, onV_s, asB_b, onBool_d]
  rw [if_neg (by omega)]
  have hb : ∀ bd nw, (.agg #[(.int .u8 bd), (.bool nw), (.slice none 0 0), (.slice none 0 0)] : Value) = bareV bd nw := fun _ _ => rfl
  simp only [hb]
  by_cases h0 : chk t = 0
  · rw [if_neg (by omega)]
    refine All.call0 (add_ok (k := k) hk hs5 hsm (yn := 0) (bd := 0) (nw := false) (by omega) (fun _ => .inl (.inl (by omega)))) fun v H6 h => ?_
    obtain ⟨hE6, hv⟩ := h
    have hE6 : Ext H5 H6 := hE6
    have hv : v = .tuple #[.slice none 0 0, .int .i64 (if chk t = 0 then 1 else chk t)] := hv
    rw [if_pos h0] at hv
    subst hv
    simp only [ex0, ex1, onV_s]
    unfold f5_r21
    simp only [hb]
    refine All.call0 (add_ok (k := k) hk (hs5.mono hE6) hsm (yn := 7) (bd := 0) (nw := false) (by omega) (fun _ => .inl (.inr (by omega)))) fun v H7 h => ?_
    obtain ⟨hE7, hv⟩ := h
    have hE7 : Ext H6 H7 := hE7
    have hv : v = .tuple #[.slice none 0 0, .int .i64 (if chk t = 0 then 1 else chk t)] := hv
    rw [if_pos h0] at hv
    subst hv
    simp only [ex0, ex1, onV_s]
    refine All.call0 (add_ok (k := k) hk ((hs5.mono hE6).mono hE7) hsm (yn := 3) (bd := 2) (nw := false) (by omega) (fun _ => .inr ⟨rfl, by omega⟩)) fun v H8 h => ?_
    obtain ⟨hE8, hv⟩ := h
    have hv : v = .tuple #[.slice none 0 0, .int .i64 (if chk t = 0 then 1 else chk t)] := hv
    rw [if_pos h0] at hv
    subst hv
    simp only [ex0, ex1, onV_s]
    unfold f5_r23
    simp only [bin_eql, onV_s]
    unfold f5_g23_3
    simp only [asB_b, onBool_d]
    rw [if_pos trivial]
    simp only [bin_eql, onV_s]
    unfold f5_g23_7
    simp only [asB_b, onBool_d]
    rw [if_pos trivial]
    simp only [bin_eql, onV_s]
    unfold f5_g23_11
    simp only [asB_b, onBool_d]
    rw [if_pos trivial]
    exact lives_end
  · rw [if_pos h0]
    refine All.call0 (add_ok (k := k) hk hs5 hsm (yn := 1) (bd := 0) (nw := true) (by omega) (fun h => absurd h h0)) fun v H6 h => ?_
    obtain ⟨hE6, hv⟩ := h
    have hv : v = .tuple #[.slice none 0 0, .int .i64 (if chk t = 0 then 1 else chk t)] := hv
    rw [if_neg h0] at hv
    subst hv
    simp only [ex0, ex1, onV_s]
    unfold f5_r19
    simp only [bin_eql, onV_s]
    unfold f5_g19_4
    simp only [asB_b, onBool_d]
    rw [if_pos trivial]
    have ho : oLen Try.prog 58 (.slice none 0 0) = some (.int .i64 (0 : Nat)) := by unfold oLen; rw [u58]
    simp only [ho, onV_s, bin_eql]
    unfold f5_g19_9
    simp only [asB_b, onBool_d]
    rw [if_pos (by decide)]
    exact lives_end
/-- What has been seen of the table so far. -/
def Seen (t : Tab) (y n : Nat) : Prop := ∀ (y' : Nat) (l : List LoopD), t[y']? = some l → (y' < y → l.length ≤ 12) ∧ ∀ (m : Nat) (x : LoopD), l[m]? = some x → (y' < y ∨ (y' = y ∧ m < n)) → x.thr.length ≤ 6 ∧ x.past.length ≤ 6
theorem law_l9 (hk : 6000 ≤ k) (hs : SlR tyTab H v0 t) {y : Nat} (hy : y < t.length) (h12 : t[y].length ≤ 12) {sg4 : Value → Value → GH → M (Value × GH)} (hgo : Seen t (y + 1) 0 → All (sg4 v0 (.int .i64 (y + 1 : Nat)) H) Yes) (hy7 : y ≤ 7) :
    ∀ (r n : Nat), n ≤ t[y].length → t[y].length - n < r → Seen t y n → All (f5_l9 (C (k + 9)) k' sg4 r v0 (.int .i64 y) (.int .i64 n) H) Yes := by
  intro r
  have hty : t[y]? = some t[y] := List.getElem?_eq_getElem hy
  induction r with
  | zero => intro n _ h; omega
  | succ r ih =>
    intro n hn hr hse
    show All (f5_l9b (C (k + 9)) k' sg4 (f5_l9 (C (k + 9)) k' sg4 r) v0 (.int .i64 y) (.int .i64 n) H) Yes
    unfold f5_l9b
    obtain ⟨p, lv, e1, e2, e3⟩ := tb_at hs (k := .i64) hy
    simp only [e1, e2, onV_s, e3.oLen u59, bin_lss, asB_b, onBool_d]
    by_cases hlt : n < t[y].length
    · rw [if_pos (by omega)]
      unfold f5_r11
      obtain ⟨q, g1, g2⟩ := lp_at e3 (k := .i64) hlt
      obtain ⟨q0, q1, q2, q3, vT, vP, a0, b0, a1, b1, a2, b2, a3, b3, s1, s2⟩ := lp_f g2
      simp only [e1, e2, onV_s, g1, a2, b2, s1.oLen u26, bin_gtr]
      unfold f5_g11_11
      simp only [asB_b, onBool_d]
      by_cases c1 : 6 < t[y][n].thr.length
      · rw [if_pos (by omega)]; exact lives_end
      rw [if_neg (by omega)]
      simp only [e1, e2, onV_s, g1, a3, b3, s2.oLen u60, bin_gtr, asB_b, onBool_d]
      by_cases c2 : 6 < t[y][n].past.length
      · rw [if_pos (by omega)]; exact lives_end
      rw [if_neg (by omega)]
      simp only [bin_add, onV_s]
      rw [wrS (by omega)]
      refine ih (n + 1) (by omega) (by omega) fun y' l hl => ⟨(hse y' l hl).1, fun m x hx hm => ?_⟩
      rcases hm with hm | ⟨hm, hm2⟩
      · exact (hse y' l hl).2 m x hx (.inl hm)
      · rcases Nat.lt_or_ge m n with h | h
        · exact (hse y' l hl).2 m x hx (.inr ⟨hm, h⟩)
        · have hmn : m = n := by omega
          subst hmn
          subst hm
          rw [hty] at hl
          have hl := Option.some.inj hl
          subst hl
          rw [List.getElem?_eq_getElem hlt] at hx
          have hx := Option.some.inj hx
          subst hx
          omega
    · rw [if_neg (by omega)]
      simp only [bin_add, onV_s]
      rw [wrS (by omega)]
      refine hgo fun y' l hl => ⟨fun h => ?_, fun m x hx hm => ?_⟩
      · rcases Nat.lt_or_ge y' y with h' | h'
        · exact (hse y' l hl).1 h'
        · have hyy : y' = y := by omega
          subst hyy
          rw [hty] at hl
          have hl := Option.some.inj hl
          rw [← hl]; exact h12
      · rcases hm with hm | ⟨_, hm⟩
        · rcases Nat.lt_or_ge y' y with h' | h'
          · exact (hse y' l hl).2 m x hx (.inl h')
          · have hyy : y' = y := by omega
            subst hyy
            have hml := (List.getElem?_eq_some_iff.1 hx).1
            have hl0 := hl
            rw [hty] at hl
            have hl' := Option.some.inj hl
            exact (hse _ l hl0).2 m x hx (.inr ⟨rfl, by rw [← hl'] at hml; omega⟩)
        · omega
theorem law_l4 (hk : 6000 ≤ k) (hs : SlR tyTab H v0 t) (h7 : t.length ≤ 7) : ∀ (r y : Nat), y ≤ t.length → t.length - y < r → Seen t y 0 → All (f5_l4 (C (k + 9)) (k + 9) r v0 (.int .i64 y) H) Yes := by
  intro r
  induction r with
  | zero => intro y _ h; omega
  | succ r ih =>
    intro y hy hr hse
    show All (f5_l4b (C (k + 9)) (k + 9) (f5_l4 (C (k + 9)) (k + 9) r) v0 (.int .i64 y) H) Yes
    unfold f5_l4b
    simp only [hs.oLen u58, onV_s, bin_lss, asB_b, onBool_d]
    by_cases hlt : y < t.length
    · rw [if_pos (by omega)]
      obtain ⟨p, lv, e1, e2, e3⟩ := tb_at hs (k := .i64) hlt
      simp only [e1, e2, onV_s, e3.oLen u59, bin_gtr, asB_b, onBool_d]
      by_cases c1 : 12 < t[y].length
      · rw [if_pos (by omega)]; exact lives_end
      rw [if_neg (by omega)]
      exact law_l9 hk hs hlt (by omega) (fun hse' => ih (y + 1) (by omega) (by omega) hse') (by omega) (k + 9) 0 (by omega) (by omega) hse
    · rw [if_neg (by omega)]
      have hall : ∀ l ∈ t, l.length ≤ 12 ∧ ∀ x ∈ l, x.thr.length ≤ 6 ∧ x.past.length ≤ 6 := fun l hl => by
        obtain ⟨i, hi, he⟩ := List.getElem_of_mem hl
        have h1 := hse i l (by rw [List.getElem?_eq_getElem hi, he])
        refine ⟨h1.1 (by omega), fun x hx => ?_⟩
        obtain ⟨m, hm, he'⟩ := List.getElem_of_mem hx
        exact h1.2 m x (by rw [List.getElem?_eq_getElem hm, he']) (.inl (by omega))
      exact law_r13 hk hs ⟨h7, fun l hl => (hall l hl).1, fun l hl x hx => ((hall l hl).2 x hx).1, fun l hl x hx => ((hall l hl).2 x hx).2⟩
theorem law_ok (hk : 6000 ≤ k) (hs : SlR tyTab H v0 t) : All (C (k + 10) (.func (.func 5) #[] #[]) [v0] H) Yes := by
  rw [C_func T5, f5_eq]
  unfold f5_sh
  simp only [hs.oLen u58, onV_s, bin_gtr, asB_b, onBool_d]
  by_cases c1 : 7 < t.length
  · rw [if_pos (by omega)]; exact lives_end
  rw [if_neg (by omega)]
  exact law_l4 hk hs (by omega) (k + 9) 0 (by omega) (by omega) fun y' l hl => ⟨fun h => by omega, fun m x hx hm => by omega⟩
end
end Go.Proofs.Ythicilkmjamefaa
