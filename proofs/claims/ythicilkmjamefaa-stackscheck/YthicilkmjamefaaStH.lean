/- The law on stacks: from its end to its beginning. -/
import Derived.Test.YthicilkmjamefaaStG
import Derived.Test.YthicilkmjamefaaShStacks3b
namespace Go.Proofs.Ythicilkmjamefaa
open Go.Gh
set_option linter.unusedVariables false
set_option linter.unusedSimpArgs false

/-- The law answers yes. -/
def Yes (x : Value × GH) : Prop := x.1 = .bool true
theorem lives_c {k : Nat} {K : Value → GH → M (Value × GH)} {H : GH} {Q : Value × GH → Prop} (h : Ev (K (.bool true) H) Q) : Ev (onCall 0 (C (k + 1)) (.func (.func 8) #[] #[]) [] H K) Q := by
  unfold onCall
  rw [C_none N8 rfl]
  exact h
theorem lives_end {k : Nat} {H : GH} : Ev (onCall 0 (C (k + 1)) (.func (.func 8) #[] #[]) [] H fun v1 H2 => some [(v1, H2)]) Yes := lives_c (Ev.mk rfl)

/-- What stands all along: the beds lie in block b. -/
structure Law (b : Nat) (vF vB : Value) (front back : List (List Idn)) (H : GH) : Prop where
  box : H.get b = some (.row [vF, vB] 24 false)
  F : SlR (tySl tyId) H vF front
  B : SlR (tySl tyId) H vB back
  lF : front.length ≤ 45
  lB : back.length ≤ 45
theorem Law.mono {b : Nat} {vF vB : Value} {front back : List (List Idn)} {H H' : GH} (h : Law b vF vB front back H) (hE : Ext H H') : Law b vF vB front back H' := ⟨hE.get_of h.box, h.F.mono hE, h.B.mono hE, h.lF, h.lB⟩

section
variable {k b : Nat} {vF vB x4 : Value} {front back : List (List Idn)} {H : GH} {names : List Idn}
theorem storeAgg {H3 : GH} {u v : Value} (hu : (Value.agg #[u, v]).cells.toList.all oneC = true) : ∃ H6, gStore Try.prog 24 (.pointer (some ⟨H3.n, 0, none⟩)) (.agg #[u, v]) (H3.push (.row [.slice none 0 0, .slice none 0 0] 24 false)) = some H6 ∧ Ext H3 H6 :=
  ⟨_, store_row GH.get_push_new gs24 rfl rfl hu, (Ext.push _ _).set (Nat.le_refl _) (Nat.lt_succ_self _) _⟩
theorem r29_ok (hk : 2000 ≤ k) (h : Law b vF vB front back H) (hn : names = (front ++ back).flatten) (hs : SlR tyId H x4 names) (hl : names.length ≤ 1000) :
    Ev (f3_r29 (C (k + 10)) (k + 10) (.pointer (some ⟨b, 0, none⟩)) x4 (.int .i64 (chk front back)) H) Yes := by
  subst hn
  have hlF := h.lF
  have hlB := h.lB
  unfold f3_r29
  simp only [(PtC.of h.box).loadA ld24, onV_s]
  refine Ev.call0 (check_ok (k := k + 6) (by omega) h.F h.B (by omega) (by omega)) fun v H3 ⟨hE, hv⟩ => ?_
  simp only at hE hv
  subst hv
  have h3 := h.mono hE
  simp only [bin_neq, onV_s, asB_b, onBool_d]
  rw [if_neg (by omega)]
  by_cases hc : chk front back = 0
  · rw [if_neg (by omega)]
    unfold f3_r35
    have h40 : front.length ≤ 40 ∧ back.length ≤ 40 := by
      unfold chk at hc
      by_cases c : 40 < front.length ∨ 40 < back.length
      · rw [if_pos c] at hc; omega
      · omega
    simp only [(PtC.of h3.box).loadA ld24, onV_s]
    refine Ev.call0 (count_ok (k := k + 7) (by omega) h3.F h3.B h40.1 h40.2 (by omega)) fun v H4 ⟨hE4, hv⟩ => ?_
    simp only at hE4 hv
    subst hv
    simp only [((hs.mono hE).mono hE4).oLen u26, onV_s, bin_eql]
    unfold f3_g35_6
    simp only [asB_b, onBool_d]
    rw [if_pos trivial]
    exact lives_end
  · rw [if_pos hc]
    unfold f3_r32
    simp only [(PtC.of h3.box).loadA ld24, onV_s]
    refine Ev.call0 (set_bad (k := k + 5) (by omega) h3.F h3.B (by omega) (by omega) hc) fun v H4 ⟨hE4, hv⟩ => ?_
    simp only at hE4 hv
    subst hv
    have h4 := h3.mono hE4
    have e0 : oExtract (.tuple #[.agg #[.slice none 0 0, .slice none 0 0], .int .i64 (chk front back)]) 0 = some (.agg #[.slice none 0 0, .slice none 0 0]) := rfl
    have e1 : oExtract (.tuple #[.agg #[.slice none 0 0, .slice none 0 0], .int .i64 (chk front back)]) 1 = some (.int .i64 (chk front back)) := rfl
    simp only [e0, e1, onV_s]
    obtain ⟨H6, g1, g2⟩ := storeAgg (H3 := H4) (u := .slice none 0 0) (v := .slice none 0 0) rfl
    simp only [g1, onH_s]
    have h6 := h4.mono g2
    unfold f3_r33
    simp only [(PtC.of h6.box).loadA ld24, onV_s]
    refine Ev.call0 (join_bad (k := k + 5) (by omega) h6.F h6.B (by omega) (by omega) hc) fun v H7 ⟨hE7, hv⟩ => ?_
    simp only at hE7 hv
    subst hv
    simp only [e0, e1, onV_s]
    obtain ⟨H8, g3, g4⟩ := storeAgg (H3 := H7) (u := .slice none 0 0) (v := .slice none 0 0) rfl
    simp only [g3, onH_s]
    unfold f3_r34
    simp only [bin_eql, onV_s]
    unfold f3_g34_4
    simp only [asB_b, onBool_d]
    rw [if_pos trivial]
    simp only [bin_eql, onV_s]
    unfold f3_g34_9
    simp only [asB_b, onBool_d]
    rw [if_pos trivial]
    exact lives_end
end

section
variable {k : Nat} {x1 x4 : Value} {H : GH} {names : List Idn}
theorem eqId {x y : Idn} : (oBin Try.prog .eql 29 (idV x) (idV y)).filter closed = some (.bool (decide (x = y))) := by
  have h1 : oBin Try.prog .eql 29 (idV x) (idV y) = quick Try.prog (Op.equal 29 (idV x) (idV y) >>= fun r => Pure.pure (Value.bool r)) := by kernel_rfl
  rw [h1, quick_bind, idEq']
  rfl
theorem l25_ok {k' : Nat} {sg : Value → Value → Value → Value → GH → M (Value × GH)} {Q : Value × GH → Prop} (hs : SlR tyId H x4 names) (hl : names.length ≤ 1000) {i : Nat} (hi : i < names.length)
    (hc : Ev (sg x1 x4 (.int .i64 (if names[i] ∈ names.take i then 8 else 0)) (.int .i64 (i + 1 : Nat)) H) Q) :
    ∀ (r j : Nat), j ≤ i → i - j < r → Ev (f3_l25 (C k) k' sg r x1 x4 (.int .i64 (if names[i] ∈ names.take j then 8 else 0)) (.int .i64 i) (.int .i64 j) H) Q := by
  intro r
  induction r with
  | zero => intro j _ h; omega
  | succ r ih =>
    intro j hj hr
    show Ev (f3_l25b (C k) k' sg (f3_l25 (C k) k' sg r) x1 x4 _ (.int .i64 i) (.int .i64 j) H) Q
    unfold f3_l25b
    simp only [bin_lss, onV_s, asB_b, onBool_d]
    by_cases hlt : j < i
    · rw [if_pos (by omega)]
      have hjl : j < names.length := by omega
      obtain ⟨q, cs, h1, h2, h3⟩ := hs.at u26 gs29 (k := .i64) hjl
      obtain ⟨q', cs', h1', h2', h3'⟩ := hs.at u26 gs29 (k := .i64) hi
      simp only [h1, h1', onV_s, loadId h2 h3, loadId h2' h3', eqId, asB_b, onBool_d, bin_add]
      have htk : names.take (j + 1) = names.take j ++ [names[j]] := by rw [List.take_succ_eq_append_getElem hjl]
      have ih' := ih (j + 1) (by omega) (by omega)
      rw [Go.IntWalk.i64_in _ (by omega), show ((j : Int) + 1) = ((j + 1 : Nat) : Int) by omega]
      by_cases he : names[j] = names[i]
      · rw [if_pos he]
        rw [if_pos (by rw [htk]; simp [he])] at ih'
        exact ih'
      · rw [if_neg he]
        have e : (names[i] ∈ names.take (j + 1)) = (names[i] ∈ names.take j) := by
          rw [htk]
          simp only [List.mem_append, List.mem_singleton]
          exact propext ⟨fun h => h.resolve_right (Ne.symm he), .inl⟩
        simp only [e] at ih'
        exact ih'
    · rw [if_neg (by omega)]
      have e : j = i := by omega
      subst e
      simp only [bin_add, onV_s]
      rw [Go.IntWalk.i64_in _ (by omega), show ((j : Int) + 1) = ((j + 1 : Nat) : Int) by omega]
      exact hc
/-- Behind the first error the loop ends. -/
theorem l22_nz {k' : Nat} {Q : Value × GH → Prop} (hs : SlR tyId H x4 names) {w : Int} (hw : w ≠ 0) {i : Nat} (hf : Ev (f3_r29 (C k) k' x1 x4 (.int .i64 w) H) Q) (r : Nat) (hr : 0 < r) :
    Ev (f3_l22 (C k) k' r x1 x4 (.int .i64 w) (.int .i64 i) H) Q := by
  obtain ⟨r, rfl⟩ : ∃ s, r = s + 1 := ⟨r - 1, by omega⟩
  show Ev (f3_l22b (C k) k' (f3_l22 (C k) k' r) x1 x4 _ (.int .i64 i) H) Q
  unfold f3_l22b
  simp only [hs.oLen u26, onV_s, bin_lss]
  unfold f3_g22_5
  simp only [asB_b, onBool_d, bin_eql, onV_s]
  by_cases h : (i : Int) < names.length
  · rw [if_pos h, if_neg hw]; exact hf
  · rw [if_neg h]; exact hf
theorem l22_ok {k' : Nat} {Q : Value × GH → Prop} (hs : SlR tyId H x4 names) (hl : names.length ≤ 1000) (hk : 1000 < k') (hf : Ev (f3_r29 (C k) k' x1 x4 (.int .i64 (if ¬ names.Nodup then 8 else 0)) H) Q) :
    ∀ (r i : Nat), i ≤ names.length → names.length - i + 1 < r → (names.take i).Nodup → Ev (f3_l22 (C k) k' r x1 x4 (.int .i64 0) (.int .i64 i) H) Q := by
  intro r
  induction r with
  | zero => intro i _ h; omega
  | succ r ih =>
    intro i hi hr hnd
    show Ev (f3_l22b (C k) k' (f3_l22 (C k) k' r) x1 x4 _ (.int .i64 i) H) Q
    unfold f3_l22b
    simp only [hs.oLen u26, onV_s, bin_lss]
    unfold f3_g22_5
    simp only [asB_b, onBool_d, bin_eql, onV_s]
    by_cases hlt : i < names.length
    · rw [if_pos (by omega), if_pos trivial]
      have h0 : (0 : Int) = if names[i] ∈ names.take 0 then 8 else 0 := by simp
      rw [h0]
      refine l25_ok hs hl hlt ?_ k' 0 (by omega) (by omega)
      have htk : names.take (i + 1) = names.take i ++ [names[i]] := by rw [List.take_succ_eq_append_getElem hlt]
      by_cases hin : names[i] ∈ names.take i
      · rw [if_pos hin]
        have hx : ¬ names.Nodup := fun hx => by
          have := hx.sublist (List.take_sublist (i + 1) names)
          rw [htk] at this
          exact (List.nodup_append.1 this).2.2 _ hin _ (List.mem_singleton.2 rfl) rfl
        rw [if_pos hx] at hf
        exact l22_nz hs (by omega) hf r (by omega)
      · rw [if_neg hin]
        refine ih (i + 1) (by omega) (by omega) ?_
        rw [htk]
        refine List.nodup_append.2 ⟨hnd, by simp, fun a ha b hb => ?_⟩
        rw [List.mem_singleton] at hb
        subst hb
        intro e
        subst e
        exact hin ha
    · rw [if_neg (by omega)]
      have : names.take i = names := List.take_of_length_le (by omega)
      rw [this] at hnd
      rw [if_neg (by simpa using hnd)] at hf
      exact hf
/-- The same for the loop on the names. -/
theorem l17_nz {k' : Nat} {Q : Value × GH → Prop} (hs : SlR tyId H x4 names) {w : Int} (hw : w ≠ 0) {i : Nat} (hf : Ev (f3_r29 (C k) k' x1 x4 (.int .i64 w) H) Q) (hk : 0 < k') (r : Nat) (hr : 0 < r) :
    Ev (f3_l17 (C k) k' r x1 x4 (.int .i64 w) (.int .i64 i) H) Q := by
  obtain ⟨r, rfl⟩ : ∃ s, r = s + 1 := ⟨r - 1, by omega⟩
  show Ev (f3_l17b (C k) k' (f3_l17 (C k) k' r) x1 x4 _ (.int .i64 i) H) Q
  unfold f3_l17b
  simp only [hs.oLen u26, onV_s, bin_lss]
  unfold f3_g17_5
  simp only [asB_b, onBool_d, bin_eql, onV_s]
  have h21 : Ev (f3_r21 (C k) k' x1 x4 (.int .i64 w) H) Q := by
    unfold f3_r21
    exact l22_nz (i := 0) hs hw hf k' hk
  by_cases h : (i : Int) < names.length
  · rw [if_pos h, if_neg hw]; exact h21
  · rw [if_neg h]; exact h21
theorem l17_ok {k' : Nat} {Q : Value × GH → Prop} (hs : SlR tyId H x4 names) (hl : names.length ≤ 1000) (hk : 2000 < k')
    (hf : Ev (f3_r29 (C k) k' x1 x4 (.int .i64 (if names.any (fun x => !named x) then 1 else if ¬ names.Nodup then 8 else 0)) H) Q) :
    ∀ (r i : Nat), i ≤ names.length → names.length - i + 1 < r → (names.take i).any (fun x => !named x) = false → Ev (f3_l17 (C k) k' r x1 x4 (.int .i64 0) (.int .i64 i) H) Q := by
  intro r
  induction r with
  | zero => intro i _ h; omega
  | succ r ih =>
    intro i hi hr hnd
    show Ev (f3_l17b (C k) k' (f3_l17 (C k) k' r) x1 x4 _ (.int .i64 i) H) Q
    unfold f3_l17b
    simp only [hs.oLen u26, onV_s, bin_lss]
    unfold f3_g17_5
    simp only [asB_b, onBool_d, bin_eql, onV_s]
    by_cases hlt : i < names.length
    · rw [if_pos (by omega), if_pos trivial]
      have htk : names.take (i + 1) = names.take i ++ [names[i]] := by rw [List.take_succ_eq_append_getElem hlt]
      obtain ⟨q, cs, h1, h2, h3⟩ := hs.at u26 gs29 (k := .i64) hlt
      have h3 : cs = idC names[i] := h3
      subst h3
      obtain ⟨q0, e0, p0⟩ := h2.field fd29_0 (by simp [idC])
      obtain ⟨q1, e1, p1⟩ := h2.field fd29_1 (by simp [idC])
      have l0 := PtC.load1 (c := .int .u8 names[i].1) p0 ld5
      have l1 := PtC.load1 (c := .int .i64 names[i].2) p1 ld3
      -- a wrong name
      have hbad : named names[i] = false → Ev (f3_l17 (C k) k' r x1 x4 (.int .i64 1) (.int .i64 (i + 1 : Nat)) H) Q := fun hb => by
        have : names.any (fun x => !named x) = true := List.any_eq_true.2 ⟨_, List.getElem_mem hlt, by simp [hb]⟩
        rw [if_pos this] at hf
        exact l17_nz hs (by omega) hf (by omega) r (by omega)
      have hadd : (IntKind.i64.wrap ((i : Int) + 1)) = ((i + 1 : Nat) : Int) := by rw [Go.IntWalk.i64_in _ (by omega)]; omega
      unfold f3_r19
      simp only [h1, onV_s, e0, l0, bin_lss]
      unfold f3_g19_7
      simp only [asB_b, onBool_d]
      by_cases c1 : names[i].1 < 1
      · rw [if_pos c1]
        unfold f3_r20
        simp only [bin_add, onV_s, hadd]
        exact hbad (by unfold named; simp; omega)
      rw [if_neg c1]
      simp only [h1, onV_s, e0, l0, bin_gtr]
      unfold f3_g19_15
      simp only [asB_b, onBool_d]
      by_cases c2 : 6 < names[i].1
      · rw [if_pos c2]
        unfold f3_r18
        simp only [bin_add, onV_s, hadd]
        exact hbad (by unfold named; simp; omega)
      rw [if_neg c2]
      simp only [h1, onV_s, e1, l1, bin_lss]
      unfold f3_g19_23
      simp only [asB_b, onBool_d]
      by_cases c3 : names[i].2 < 0
      · rw [if_pos c3]
        simp only [bin_add, onV_s, hadd]
        exact hbad (by unfold named; simp; omega)
      rw [if_neg c3]
      simp only [h1, onV_s, e1, l1, bin_gtr, asB_b, onBool_d]
      by_cases c4 : 2047 < names[i].2
      · rw [if_pos c4]
        simp only [bin_add, onV_s, hadd]
        exact hbad (by unfold named; simp; omega)
      rw [if_neg c4]
      simp only [bin_add, onV_s, hadd]
      refine ih (i + 1) (by omega) (by omega) ?_
      rw [htk, List.any_append, hnd, List.any_cons, List.any_nil]
      have : named names[i] = true := by unfold named; simp; omega
      simp [this]
    · rw [if_neg (by omega)]
      have : names.take i = names := List.take_of_length_le (by omega)
      rw [this] at hnd
      rw [if_neg (by simp [hnd])] at hf
      unfold f3_r21
      exact l22_ok hs hl (by omega) hf k' 0 (by omega) (by omega) (by simp)
end
end Go.Proofs.Ythicilkmjamefaa
