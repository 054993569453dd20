/- The law's own check of a table: all loops, twice the same name, and what can be made in any order. -/
import Derived.Test.YthicilkmjamefaaLoA
namespace Go.Proofs.Ythicilkmjamefaa
open Go.Gh
set_option linter.unusedVariables false
set_option linter.unusedSimpArgs false

/-- The tables of which the law speaks. -/
structure Small (t : Tab) : Prop where
  len : t.length ≤ 7
  row : ∀ l ∈ t, l.length ≤ 12
  thr : ∀ l ∈ t, ∀ x ∈ l, x.thr.length ≤ 6
  past : ∀ l ∈ t, ∀ x ∈ l, x.past.length ≤ 6
def thrs (l : List LoopD) : List Idn := l.flatMap (·.thr)
def allThr (t : Tab) : List Idn := t.flatMap thrs
theorem thrs_snoc (l : List LoopD) {n : Nat} (h : n < l.length) : thrs (l.take (n + 1)) = thrs (l.take n) ++ l[n].thr := by
  unfold thrs; rw [List.take_succ_eq_append_getElem h, List.flatMap_append, List.flatMap_cons, List.flatMap_nil, List.append_nil]
theorem allThr_snoc (t : Tab) {n : Nat} (h : n < t.length) : allThr (t.take (n + 1)) = allThr (t.take n) ++ thrs t[n] := by
  unfold allThr; rw [List.take_succ_eq_append_getElem h, List.flatMap_append, List.flatMap_cons, List.flatMap_nil, List.append_nil]
theorem thrs_le (l : List LoopD) (h : ∀ x ∈ l, x.thr.length ≤ 6) : (thrs l).length ≤ 6 * l.length := by
  induction l with
  | nil => simp [thrs]
  | cons a l ih =>
    have := ih fun x hx => h x (by simp [hx])
    have h1 := h a (by simp)
    simp only [thrs, List.flatMap_cons, List.length_append, List.length_cons] at this ⊢
    omega
theorem allThr_le (t : Tab) (h1 : ∀ l ∈ t, l.length ≤ 12) (h2 : ∀ l ∈ t, ∀ x ∈ l, x.thr.length ≤ 6) : (allThr t).length ≤ 72 * t.length := by
  induction t with
  | nil => simp [allThr]
  | cons a l ih =>
    have := ih (fun x hx => h1 x (by simp [hx])) fun x hx => h2 x (by simp [hx])
    have h3 := h1 a (by simp)
    have h4 := thrs_le a (h2 a (by simp))
    simp only [allThr, List.flatMap_cons, List.length_append, List.length_cons] at this ⊢
    omega

/-! ### What can be made -/
def Can (t : Tab) (D : List Nat) (y : Nat) : Prop := ∃ (l : List LoopD) (x : LoopD), t[y]? = some l ∧ l[D.getD (y + 1) 0]? = some x ∧ (∀ q ∈ x.thr, nr D q = false) ∧ ∀ q ∈ x.past, nr D q.id = false
def bump (D : List Nat) (y : Nat) : List Nat := D.set (y + 1) (D.getD (y + 1) 0 + 1)
inductive Reach (t : Tab) : List Nat → Prop
  | zero : Reach t (List.replicate 7 0)
  | step {D : List Nat} {y : Nat} (h : Reach t D) (hy : y < 6) (hc : Can t D y) : Reach t (bump D y)
def Stuck (t : Tab) (D : List Nat) : Prop := ∀ y, y < 6 → ¬ Can t D y
theorem Reach.len {t : Tab} {D : List Nat} (h : Reach t D) : D.length = 7 := by
  induction h with
  | zero => simp
  | step _ _ _ ih => unfold bump; rw [List.length_set]; exact ih
theorem bump_get {D : List Nat} {y z : Nat} (hl : D.length = 7) (hy : y < 6) : (bump D y).getD (z + 1) 0 = if z = y then D.getD (y + 1) 0 + 1 else D.getD (z + 1) 0 := by
  unfold bump
  simp only [List.getD_eq_getElem?_getD, List.getElem?_set]
  by_cases h : z = y
  · subst h; rw [if_pos rfl, if_pos rfl, if_pos (by omega)]; rfl
  · rw [if_neg (by omega), if_neg h]
theorem bump_ge {D : List Nat} {y : Nat} (hl : D.length = 7) (hy : y < 6) (z : Nat) : D.getD z 0 ≤ (bump D y).getD z 0 := by
  unfold bump
  simp only [List.getD_eq_getElem?_getD, List.getElem?_set]
  by_cases h : y + 1 = z
  · subst h; rw [if_pos rfl, if_pos (by omega)]; exact Nat.le_succ _
  · rw [if_neg h]; exact Nat.le_refl _
theorem rep0 (n z : Nat) : (List.replicate n (0 : Nat)).getD z 0 = 0 := by
  rw [List.getD_eq_getElem?_getD, List.getElem?_replicate]; split <;> rfl
theorem Reach.le {t : Tab} {D : List Nat} (h : Reach t D) : ∀ y l, y < 6 → t[y]? = some l → D.getD (y + 1) 0 ≤ l.length := by
  induction h with
  | zero => intro y l hy _; rw [rep0]; exact Nat.zero_le _
  | @step D y h hy hc ih =>
    intro z l hz hl
    rw [bump_get h.len hy]
    by_cases e : z = y
    · rw [if_pos e]
      obtain ⟨l', x, h1, h2, _⟩ := hc
      subst e
      rw [hl] at h1
      injection h1 with h1
      subst h1
      have := (List.getElem?_eq_some_iff.1 h2).1
      omega
    · rw [if_neg e]; exact ih z l hz hl
theorem nr_mono {D D' : List Nat} (h : ∀ z, D.getD z 0 ≤ D'.getD z 0) {q : Idn} (hq : nr D q = false) : nr D' q = false := by
  unfold nr at hq ⊢
  have := h q.1.toNat
  simp only [decide_eq_false_iff_not] at hq ⊢
  omega
/-- Whatever can be reached lies below whatever is stuck. -/
theorem Reach.under {t : Tab} {D D' : List Nat} (h : Reach t D) (h' : Reach t D') (hs : Stuck t D') : ∀ z, D.getD z 0 ≤ D'.getD z 0 := by
  induction h with
  | zero => intro z; rw [rep0]; exact Nat.zero_le _
  | @step D y h hy hc ih =>
    intro z
    rcases Nat.eq_zero_or_pos z with h0 | h0
    · subst h0
      have : (bump D y).getD 0 0 = D.getD 0 0 := by unfold bump; simp [List.getD_eq_getElem?_getD, List.getElem?_set]
      rw [this]; exact ih 0
    obtain ⟨z, rfl⟩ : ∃ w, z = w + 1 := ⟨z - 1, by omega⟩
    rw [bump_get h.len hy]
    by_cases e : z = y
    · rw [if_pos e]
      subst e
      rcases Nat.lt_or_ge (D.getD (z + 1) 0) (D'.getD (z + 1) 0) with hlt | hge
      · omega
      · exfalso
        have he : D'.getD (z + 1) 0 = D.getD (z + 1) 0 := by have := ih (z + 1); omega
        obtain ⟨l, x, h1, h2, h3, h4⟩ := hc
        exact hs z hy ⟨l, x, h1, by rw [he]; exact h2, fun q hq => nr_mono ih (h3 q hq), fun q hq => nr_mono ih (h4 q hq)⟩
    · rw [if_neg e]; exact ih _
theorem Reach.unique {t : Tab} {D D' : List Nat} (h : Reach t D) (hs : Stuck t D) (h' : Reach t D') (hs' : Stuck t D') : ∀ z, D.getD z 0 = D'.getD z 0 := fun z => Nat.le_antisymm (h.under h' hs' z) (h'.under h hs z)
theorem needN_zero {t : Tab} {D : List Nat} {y : Nat} {l : List LoopD} {x : LoopD} (h1 : t[y]? = some l) (h2 : l[D.getD (y + 1) 0]? = some x) : needN D (((y + 1 : Nat) : Int), (D.getD (y + 1) 0 : Int)) x = 0 ↔ Can t D y := by
  unfold needN
  simp only [Int.toNat_natCast, Int.lt_irrefl, if_false, Nat.zero_add, Nat.add_eq_zero_iff, List.countP_eq_zero]
  constructor
  · rintro ⟨a, b⟩
    exact ⟨l, x, h1, h2, fun q hq => by simpa using a q hq, fun q hq => by simpa using b q hq⟩
  · rintro ⟨l', x', g1, g2, a, b⟩
    rw [h1] at g1; injection g1 with g1; subst g1
    rw [h2] at g2; injection g2 with g2; subst g2
    exact ⟨fun q hq => by rw [a q hq]; simp, fun q hq => by rw [b q hq]; simp⟩
def sumD (D : List Nat) : Nat := D.getD 1 0 + D.getD 2 0 + D.getD 3 0 + D.getD 4 0 + D.getD 5 0 + D.getD 6 0
theorem sum_bump {D : List Nat} {y : Nat} (hl : D.length = 7) (hy : y < 6) : sumD (bump D y) = sumD D + 1 := by
  unfold sumD
  have h := fun z => bump_get (z := z) hl hy
  have h0 := h 0; have h1 := h 1; have h2 := h 2; have h3 := h 3; have h4 := h 4; have h5 := h 5
  simp only [Nat.zero_add, Nat.reduceAdd] at h0 h1 h2 h3 h4 h5
  rw [h0, h1, h2, h3, h4, h5]
  match y, hy with
  | 0, _ => simp; omega
  | 1, _ => simp; omega
  | 2, _ => simp; omega
  | 3, _ => simp; omega
  | 4, _ => simp; omega
  | 5, _ => simp; omega
theorem Reach.sum {t : Tab} {D : List Nat} (h : Reach t D) (ht : t.length = 6) (hr : ∀ l ∈ t, l.length ≤ 13) : sumD D ≤ 78 := by
  have hle := fun y (hy : y < 6) => h.le y t[y] hy (List.getElem?_eq_getElem (by omega))
  have hr' := fun y (hy : y < 6) => hr t[y] (List.getElem_mem (by omega))
  unfold sumD
  have := hle 0 (by omega); have := hle 1 (by omega); have := hle 2 (by omega); have := hle 3 (by omega); have := hle 4 (by omega); have := hle 5 (by omega)
  have := hr' 0 (by omega); have := hr' 1 (by omega); have := hr' 2 (by omega); have := hr' 3 (by omega); have := hr' 4 (by omega); have := hr' 5 (by omega)
  simp only [Nat.zero_add, Nat.reduceAdd] at *
  omega
/-- Names of a table without faults are those of its loops. -/
theorem ids_ok {t : Tab} (hb : ¬ Bad t) (ht : t.length = 6) {y n : Nat} {l : List LoopD} {x : LoopD} (h1 : t[y]? = some l) (h2 : l[n]? = some x) : (∀ q ∈ x.thr, 1 ≤ q.1 ∧ q.1 ≤ 6 ∧ 0 ≤ q.2) ∧ ∀ q ∈ x.past, 1 ≤ q.id.1 ∧ q.id.1 ≤ 6 ∧ 0 ≤ q.id.2 := by
  have hnb : ¬ badLp t n x := fun h => hb ⟨y, l, n, x, h1, h2, h⟩
  have hof : ∀ q : Idn, hasB t q = true → 1 ≤ q.1 ∧ q.1 ≤ 6 ∧ 0 ≤ q.2 := by
    intro q hq
    unfold hasB at hq
    simp only [Bool.and_eq_true, decide_eq_true_eq] at hq
    omega
  constructor
  · intro q hq
    refine hof q ?_
    cases h : hasB t q with
    | true => rfl
    | false => exact absurd (.inr (.inr (.inr (.inr ⟨q, hq, h⟩)))) hnb
  · intro q hq
    refine hof q.id ?_
    cases h : hasB t q.id with
    | true => rfl
    | false =>
      obtain ⟨i, hi, he⟩ := List.getElem_of_mem hq
      exact absurd (.inr (.inr (.inr (.inl ⟨i, q, by rw [List.getElem?_eq_getElem hi, he], .inr (.inl h)⟩)))) hnb
end Go.Proofs.Ythicilkmjamefaa
/- The law's own check of a table: the walk through its loops. -/
namespace Go.Proofs.Ythicilkmjamefaa
open Go.Gh
set_option linter.unusedVariables false
set_option linter.unusedSimpArgs false

theorem build29 (i j : Int) : oBuild Try.prog 29 [(0, .int .u8 i), (1, .int .i64 j)] = some (idV (i, j)) := by kernel_rfl
theorem in_set {H : GH} {b : Nat} {e : TypeId} {D : List Nat} (h : H.get b = some (.row (inC D) e false)) (hl : D.length = 7) {k : IntKind} {i : Nat} (hi : i < 7) (n : Nat) :
    ∃ q, oIndexAddr Try.prog 160 (.pointer (some ⟨b, 0, none⟩)) (.int k i) = some q ∧ gLoad Try.prog 3 q H = some (.int .i64 (D.getD i 0)) ∧ gStore Try.prog 3 q (.int .i64 n) H = some (H.set b (.row (inC (D.set i n)) e false)) := by
  have hg : gSize Try.prog 3 = some 1 := (ldOk_spec ld3).2.2
  have hlen : (inC D).length = 7 := by simp [inC, hl]
  refine ⟨.pointer (some ⟨b, i, none⟩), ?_, ?_, ?_⟩
  · unfold oIndexAddr
    simp only [u160]
    rw [if_pos ⟨by omega, by omega⟩, hg]
    simp only [Option.map_some, Int.toNat_natCast, Nat.mul_one]
    unfold Addr.add
    by_cases h0 : i = 0
    · simp [h0]
    · simp [h0]
  · refine PtC.load1 (P := Try.prog) (t := 3) ⟨b, i, _, _, _, rfl, h, by simp only [List.length_cons, List.length_nil]; omega, ?_⟩ ld3
    have h2 : (inC D)[i]? = some (.int .i64 (D.getD i 0)) := by rw [in_get (by omega), List.getD_eq_getElem?_getD, List.getElem?_eq_getElem (by omega)]; rfl
    rw [List.length_singleton, List.drop_eq_getElem_cons (by omega), List.take_succ_cons, List.take_zero, (List.getElem?_eq_some_iff.1 h2).2]
  · unfold gStore
    simp only [hg]
    rw [if_pos (show (Value.cells (.int .i64 (n : Int))).size = 1 from rfl)]
    unfold gStoreCells
    simp only [h]
    have e1 : (Value.cells (.int .i64 (n : Int))).toList = [.int .i64 (n : Int)] := rfl
    rw [e1, if_pos ⟨by rw [hlen, List.length_singleton]; omega, rfl⟩]
    have e2 : putAt (inC D) i [.int .i64 (n : Int)] = inC (D.set i n) := by
      unfold putAt
      rw [List.length_singleton]
      have e3 : inC (D.set i n) = (inC D).set i (.int .i64 (n : Int)) := by unfold inC; rw [List.map_set]
      rw [e3, List.set_eq_take_append_cons_drop, if_pos (by omega), List.append_assoc]
      rfl
    rw [e2]

section
variable {k k' : Nat} {v0 v3 : Value} {t : Tab} {H0 H : GH} {Q : Value × GH → Prop} {names : List Idn} {b13 : Nat}
/-- The last look: is all made? -/
theorem ck_l49 (hs : SlR tyTab H v0 t) (ht : t.length = 6) {D : List Nat} (hl : D.length = 7) (hD : PtC H v3 (inC D)) (hr : Reach t D) (hr12 : ∀ l ∈ t, l.length ≤ 13)
    (h0 : (∀ y l, y < 6 → t[y]? = some l → D.getD (y + 1) 0 = l.length) → Q (.int .i64 0, H)) (h6 : ¬ (∀ y l, y < 6 → t[y]? = some l → D.getD (y + 1) 0 = l.length) → Q (.int .i64 6, H)) :
    ∀ (r y : Nat), y ≤ 6 → 6 - y < r → (∀ z l, z < y → t[z]? = some l → D.getD (z + 1) 0 = l.length) → Ev (f23_l49 (C k) k' r v0 v3 (.int .i64 (y + 1 : Nat)) H) Q := by
  intro r
  induction r with
  | zero => intro y _ h; omega
  | succ r ih =>
    intro y hy hr' hall
    show Ev (f23_l49b (C k) k' (f23_l49 (C k) k' r) v0 v3 (.int .i64 (y + 1 : Nat)) H) Q
    unfold f23_l49b
    simp only [bin_leq, onV_s, asB_b, onBool_d]
    by_cases h6' : y < 6
    · rw [if_pos (by omega)]
      obtain ⟨q, e1, e2, _⟩ := in_at hD hl (k := .i64) (i := y + 1) (by omega)
      obtain ⟨p, lv, g1, g2, g3⟩ := tb_at hs (k := .i64) (i := y) (by omega)
      simp only [e1, e2, onV_s, bin_sub]
      rw [Go.IntWalk.i64_in _ (by omega), show (((y + 1 : Nat) : Int) - 1) = ((y : Nat) : Int) by omega]
      simp only [g1, g2, onV_s, g3.oLen u59, bin_neq, asB_b, onBool_d]
      by_cases hne : D.getD (y + 1) 0 = t[y].length
      · rw [if_neg (by omega)]
        simp only [bin_add, onV_s]
        rw [wrS (by omega)]
        refine ih (y + 1) (by omega) (by omega) fun z l hz hl' => ?_
        rcases Nat.lt_or_ge z y with h | h
        · exact hall z l h hl'
        · have hzy : z = y := by omega
          subst hzy
          have hzt : z < t.length := by omega
          rw [List.getElem?_eq_getElem hzt] at hl'
          have e9 : t[z] = l := Option.some.inj hl'
          rw [← e9]
          exact hne
      · rw [if_pos (by omega)]
        exact Ev.mk (h6 fun h => hne (h y _ h6' (List.getElem?_eq_getElem (by omega))))
    · rw [if_neg (by omega)]
      exact Ev.mk (h0 fun z l hz hl' => hall z l (by omega) hl')

/-- One round, downwards. -/
theorem ck_l42 (hk : 2000 ≤ k) (hb : ¬ Bad t) (hsm : Small t) (ht : t.length = 6) (hs : SlR tyTab H0 v0 t) (hb0 : H0.n ≤ b13) {sg39 : Value → Value → Value → GH → M (Value × GH)} {S : Nat}
    (hgo : ∀ D m H', Ext H0 H' → H'.get b13 = some (.row (inC D) 160 false) → Reach t D → (m = false → Stuck t D) → (m = true → S < sumD D) → Ev (sg39 v0 (.pointer (some ⟨b13, 0, none⟩)) (.bool m) H') Q) :
    ∀ (r y : Nat) (D : List Nat) (m : Bool) (H : GH), y ≤ 6 → y < r → Ext H0 H → H.get b13 = some (.row (inC D) 160 false) → Reach t D → (m = false → S = sumD D ∧ ∀ z, y ≤ z → z < 6 → ¬ Can t D z) → (m = true → S < sumD D) →
      Ev (f23_l42 (C (k + 1)) k' sg39 r v0 (.pointer (some ⟨b13, 0, none⟩)) (.bool m) (.int .i64 y) H) Q := by
  intro r
  induction r with
  | zero => intro y D m H _ h; omega
  | succ r ih =>
    intro y D m H hy hr hE hg hR hm0 hm1
    show Ev (f23_l42b (C (k + 1)) k' sg39 (f23_l42 (C (k + 1)) k' sg39 r) v0 (.pointer (some ⟨b13, 0, none⟩)) (.bool m) (.int .i64 y) H) Q
    unfold f23_l42b
    simp only [bin_geq, onV_s, asB_b, onBool_d]
    have hl := hR.len
    by_cases h1 : 1 ≤ y
    · rw [if_pos (by omega)]
      obtain ⟨y, rfl⟩ : ∃ z, y = z + 1 := ⟨y - 1, by omega⟩
      have hyt : y < t.length := by omega
      obtain ⟨q, e1, e2, _⟩ := in_at (PtC.of hg) hl (k := .i64) (i := y + 1) (by omega)
      simp only [conv35 (i := ((y + 1 : Nat) : Int)) (by omega), onV_s, e1, e2, build29]
      obtain ⟨H1, f1, f2, f3, f4⟩ := box (P := Try.prog) (t := 29) (H := H) (v := idV (((y + 1 : Nat) : Int), (D.getD (y + 1) 0 : Int))) (cs := idC (((y + 1 : Nat) : Int), (D.getD (y + 1) 0 : Int))) (row := [(.int .u8 0), (.int .i64 0)]) (e := 29) (gSize_ld ld29) rfl rfl rfl
      simp only [f1, onH_s]
      have hE1 := hE.trans f2
      have hg1 : H1.get b13 = some (.row (inC D) 160 false) := f2.get_of hg
      have hp := PtC.of f3
      unfold f23_r45
      obtain ⟨w0, w1, a0, b0, a1, b1⟩ := id_f hp
      obtain ⟨p, lv, g1, g2, g3⟩ := tb_at (hs.mono hE1) (k := .i64) hyt
      simp only [a1, b1, onV_s, bin_sub]
      rw [Go.IntWalk.i64_in _ (by omega), show (((y + 1 : Nat) : Int) - 1) = ((y : Nat) : Int) by omega]
      simp only [g1, g2, onV_s, g3.oLen u59, bin_lss]
      unfold f23_g45_10
      simp only [asB_b, onBool_d]
      have hty : t[y]? = some t[y] := List.getElem?_eq_getElem hyt
      have hnot : ∀ H2, Ext H0 H2 → H2.get b13 = some (.row (inC D) 160 false) → ¬ Can t D y → Ev (f23_l42 (C (k + 1)) k' sg39 r v0 (.pointer (some ⟨b13, 0, none⟩)) (.bool m) (.int .i64 y) H2) Q := fun H2 hE2 hg2 hn =>
        ih y D m H2 (by omega) (by omega) hE2 hg2 hR (fun hm => ⟨(hm0 hm).1, fun z hz hz6 => by
          rcases Nat.lt_or_ge y z with h | h
          · exact (hm0 hm).2 z (by omega) hz6
          · have : z = y := by omega
            subst this; exact hn⟩) hm1
      by_cases hlt : D.getD (y + 1) 0 < t[y].length
      · rw [if_pos (by omega)]
        have hx : t[y][D.getD (y + 1) 0]? = some t[y][D.getD (y + 1) 0] := List.getElem?_eq_getElem hlt
        obtain ⟨hi1, hi2⟩ := ids_ok hb ht hty hx
        have hmem : t[y] ∈ t := List.getElem_mem hyt
        have hmem2 : t[y][D.getD (y + 1) 0] ∈ t[y] := List.getElem_mem hlt
        have hagg : gLoad Try.prog 160 (.pointer (some ⟨b13, 0, none⟩)) H1 = some (.agg (inC D).toArray) := (PtC.of hg1).loadA (by rw [show (inC D).length = 7 by simp [inC, hl]]; exact ld160)
        simp only [id_ld hp, onV_s, hagg]
        refine Ev.call 1 (R := fun v _ => v = .int .i64 (needN D (((y + 1 : Nat) : Int), (D.getD (y + 1) 0 : Int)) t[y][D.getD (y + 1) 0])) (Sp.of (fun lo => ?_) (fun _ _ _ h => h)) fun w H2 hE' hw => ?_
        · refine needs_ok hk ((hs.mono hE1).lo (tySl_gets gets_lp)) hl (by omega) rfl hty hx (fun q hq => ?_) (fun q hq => ?_) ?_ ?_
          · have := hi1 q hq; omega
          · have := hi2 q hq; omega
          · have := hsm.thr _ hmem _ hmem2; omega
          · have := hsm.past _ hmem _ hmem2; omega
        subst hw
        have hE2 := hE1.trans hE'
        have hg2 : H2.get b13 = some (.row (inC D) 160 false) := hE'.get_of hg1
        simp only [bin_eql, onV_s, asB_b, onBool_d]
        by_cases hz : needN D (((y + 1 : Nat) : Int), (D.getD (y + 1) 0 : Int)) t[y][D.getD (y + 1) 0] = 0
        · rw [if_pos (by omega)]
          have hcan := (needN_zero hty hx).1 hz
          obtain ⟨q, e1, e2, e3⟩ := in_set hg2 hl (k := .i64) (i := y + 1) (by omega) (D.getD (y + 1) 0 + 1)
          have hle := hR.le y _ (by omega) hty
          have h12 := hsm.row _ hmem
          simp only [e1, e2, onV_s, bin_add]
          rw [wrS (by omega)]
          simp only [e3, onH_s]
          unfold f23_r43
          simp only [bin_sub, onV_s]
          rw [Go.IntWalk.i64_in _ (by omega), show (((y + 1 : Nat) : Int) - 1) = ((y : Nat) : Int) by omega]
          have hsum : S < sumD (bump D y) := by
            rw [sum_bump hl (by omega)]
            cases m with
            | false => have := (hm0 rfl).1; omega
            | true => have := hm1 rfl; omega
          refine ih y (bump D y) true _ (by omega) (by omega) (hE2.set hb0 (GH.get_lt hg2) _) ?_ (hR.step (by omega) hcan) (fun h => by cases h) fun _ => hsum
          rw [GH.get_set_same hg2]
          rfl
        · rw [if_neg (by omega)]
          simp only [bin_sub, onV_s]
          rw [Go.IntWalk.i64_in _ (by omega), show (((y + 1 : Nat) : Int) - 1) = ((y : Nat) : Int) by omega]
          exact hnot H2 hE2 hg2 fun hc => hz ((needN_zero hty hx).2 hc)
      · rw [if_neg (by omega)]
        simp only [bin_sub, onV_s]
        rw [Go.IntWalk.i64_in _ (by omega), show (((y + 1 : Nat) : Int) - 1) = ((y : Nat) : Int) by omega]
        refine hnot H1 hE1 hg1 fun ⟨l, x, c1, c2, _⟩ => ?_
        rw [hty] at c1; injection c1 with c1; subst c1
        exact hlt (List.getElem?_eq_some_iff.1 c2).1
    · rw [if_neg (by omega)]
      refine hgo D m H hE hg hR (fun hm z hz => (hm0 hm).2 z (by omega) hz) hm1

/-- Whatever can be made, in any order. -/
theorem ck_l39 (hk : 2000 ≤ k) (hk' : 100 ≤ k') (hb : ¬ Bad t) (hsm : Small t) (ht : t.length = 6) (hs : SlR tyTab H0 v0 t) (hb0 : H0.n ≤ b13)
    (hend : ∀ D H', Reach t D → Stuck t D → Ext H0 H' → ((∀ y l, y < 6 → t[y]? = some l → D.getD (y + 1) 0 = l.length) → Q (.int .i64 0, H')) ∧ (¬ (∀ y l, y < 6 → t[y]? = some l → D.getD (y + 1) 0 = l.length) → Q (.int .i64 6, H'))) :
    ∀ (r : Nat) (D : List Nat) (m : Bool) (H : GH), (m = true → 80 < r + sumD D) → (m = false → 0 < r) → Ext H0 H → H.get b13 = some (.row (inC D) 160 false) → Reach t D → (m = false → Stuck t D) →
      Ev (f23_l39 (C (k + 1)) k' r v0 (.pointer (some ⟨b13, 0, none⟩)) (.bool m) H) Q := by
  intro r
  have h13 : ∀ l ∈ t, l.length ≤ 13 := fun l hl => by have := hsm.row l hl; omega
  induction r with
  | zero =>
    intro D m H h1 h0 _ _ hR _
    cases m with
    | false => exact absurd (h0 rfl) (by omega)
    | true => have := h1 rfl; have := hR.sum ht h13; omega
  | succ r ih =>
    intro D m H h1 h0 hE hg hR hm
    show Ev (f23_l39b (C (k + 1)) k' (f23_l39 (C (k + 1)) k' r) v0 (.pointer (some ⟨b13, 0, none⟩)) (.bool m) H) Q
    unfold f23_l39b
    simp only [asB_b, onBool_i]
    cases m with
    | true =>
      simp only [if_true]
      refine ck_l42 (S := sumD D) hk hb hsm ht hs hb0 (fun D' m' H' hE' hg' hR' hm' hs' => ih D' m' H' (fun h => ?_) (fun h => ?_) hE' hg' hR' hm') k' 6 D false H (by omega) (by omega) hE hg hR (fun _ => ⟨rfl, fun z hz hz6 => by omega⟩) (fun h => by cases h)
      · have := hs' h; have := h1 rfl; omega
      · have := h1 rfl; have := hR.sum ht h13; omega
    | false =>
      simp only [Bool.false_eq_true, if_false]
      unfold f23_r48
      obtain ⟨hq0, hq6⟩ := hend D H hR (hm rfl) hE
      exact ck_l49 (hs.mono hE) ht hR.len (PtC.of hg) hR h13 hq0 hq6 k' 0 (by omega) (by omega) fun z l hz => by omega

/-- Twice the same name. -/
theorem ck_l33 {sg30 : Value → Value → Value → GH → M (Value × GH)} (hs : SlR tyId H v3 names) (hl : names.length ≤ 100000) {i : Nat} (hi : i < names.length)
    (hbad : ¬ names.Nodup → Q (.int .i64 8, H)) (hgo : (∀ m (hm : m < i), names[m] ≠ names[i]) → Ev (sg30 v0 v3 (.int .i64 (i + 1 : Nat)) H) Q) :
    ∀ (r j : Nat), j ≤ i → i - j < r → (∀ m (hm : m < j) (h : j ≤ i), names[m] ≠ names[i]) → Ev (f23_l33 (C k) k' sg30 r v0 v3 (.int .i64 i) (.int .i64 j) H) Q := by
  intro r
  induction r with
  | zero => intro j _ h; omega
  | succ r ih =>
    intro j hj hr hall
    show Ev (f23_l33b (C k) k' sg30 (f23_l33 (C k) k' sg30 r) v0 v3 (.int .i64 i) (.int .i64 j) H) Q
    unfold f23_l33b
    simp only [bin_lss, onV_s, asB_b, onBool_d]
    by_cases hlt : j < i
    · rw [if_pos (by omega)]
      obtain ⟨p, e1, e2, _⟩ := id_at hs (k := .i64) (i := j) (by omega)
      obtain ⟨p', g1, g2, _⟩ := id_at hs (k := .i64) (i := i) hi
      simp only [e1, g1, onV_s, id_ld e2, id_ld g2, eqId, asB_b, onBool_d]
      by_cases he : names[j] = names[i]
      · rw [if_pos he]
        refine Ev.mk (hbad fun hnd => ?_)
        exact (List.pairwise_iff_getElem.1 hnd) j i (by omega) hi hlt he
      · rw [if_neg he]
        simp only [bin_add, onV_s]
        rw [wrS (by omega)]
        refine ih (j + 1) (by omega) (by omega) fun m hm h => ?_
        rcases Nat.lt_or_ge m j with h' | h'
        · exact hall m h' hj
        · have : m = j := by omega
          subst this; exact he
    · rw [if_neg (by omega)]
      simp only [bin_add, onV_s]
      rw [wrS (by omega)]
      have : j = i := by omega
      subst this
      exact hgo fun m hm => hall m hm hj
theorem ck_l30 (hs : SlR tyId H v3 names) (hl : names.length ≤ 100000) (hk' : names.length < k') (hbad : ¬ names.Nodup → Q (.int .i64 8, H)) (hgo : names.Nodup → Ev (f23_r37 (C k) k' v0 H) Q) :
    ∀ (r i : Nat), i ≤ names.length → names.length - i < r → (names.take i).Nodup → Ev (f23_l30 (C k) k' r v0 v3 (.int .i64 i) H) Q := by
  intro r
  induction r with
  | zero => intro i _ h; omega
  | succ r ih =>
    intro i hi hr hnd
    show Ev (f23_l30b (C k) k' (f23_l30 (C k) k' r) v0 v3 (.int .i64 i) H) Q
    unfold f23_l30b
    simp only [hs.oLen u26, bin_lss, onV_s, asB_b, onBool_d]
    by_cases hlt : i < names.length
    · rw [if_pos (by omega)]
      refine ck_l33 hs hl hlt hbad (fun hne => ih (i + 1) (by omega) (by omega) ?_) k' 0 (by omega) (by omega) fun m hm => by omega
      rw [List.take_succ_eq_append_getElem hlt]
      refine List.nodup_append.2 ⟨hnd, by simp, fun a ha b hb => ?_⟩
      rw [List.mem_singleton] at hb
      subst hb
      obtain ⟨m, hm, he⟩ := List.getElem_of_mem ha
      rw [List.length_take] at hm
      rw [List.getElem_take] at he
      rw [← he]
      exact hne m (by omega)
    · rw [if_neg (by omega)]
      rw [List.take_of_length_le (by omega)] at hnd
      exact hgo hnd
end
end Go.Proofs.Ythicilkmjamefaa
/- The law's own check of a table: what it comes to. -/
namespace Go.Proofs.Ythicilkmjamefaa
open Go.Gh
set_option linter.unusedVariables false
set_option linter.unusedSimpArgs false

def Full (t : Tab) : Prop := ∀ D, Reach t D → Stuck t D → ∀ y l, y < 6 → t[y]? = some l → D.getD (y + 1) 0 = l.length
theorem full_iff {t : Tab} {D : List Nat} (h : Reach t D) (hs : Stuck t D) : Full t ↔ ∀ y l, y < 6 → t[y]? = some l → D.getD (y + 1) 0 = l.length :=
  ⟨fun hf => hf D h hs, fun hf D' h' hs' y l hy hl => by rw [h'.unique hs' h hs]; exact hf y l hy hl⟩
open Classical in
/-- The error of a table, by definition. -/
noncomputable def chk (t : Tab) : Int := if t.length ≠ 6 then 5 else if Bad t then 1 else if ¬ (allThr t).Nodup then 8 else if Full t then 0 else 6
section
variable {k k' : Nat} {v0 v3 : Value} {t : Tab} {H0 H : GH} {Q : Value × GH → Prop}
def NB (t : Tab) (y n : Nat) : Prop := ∀ (y' : Nat) (l : List LoopD) (m : Nat) (x : LoopD), t[y']? = some l → l[m]? = some x → (y' < y ∨ (y' = y ∧ m < n)) → ¬ badLp t m x
theorem ck_l8 (hs : SlR tyTab H0 v0 t) (hsm : Small t) (hk' : 3000 ≤ k') (hbad : Bad t → ∀ H', Ext H0 H' → Q (.int .i64 1, H')) {y : Nat} (hy : y < t.length) {sg5 : Value → Value → Value → GH → M (Value × GH)}
    (hgo : NB t (y + 1) 0 → ∀ v' H', Ext H0 H' → Own tyId 29 H0 H' v' (allThr (t.take (y + 1))) → Ev (sg5 v0 v' (.int .i64 (y + 1 : Nat)) H') Q) :
    ∀ (r n : Nat) (v3 : Value) (H : GH), n ≤ t[y].length → t[y].length - n < r → Ext H0 H → Own tyId 29 H0 H v3 (allThr (t.take y) ++ thrs (t[y].take n)) → NB t y n →
      Ev (f23_l8 (C (k + 1)) k' sg5 r v0 v3 (.int .i64 y) (.int .i64 n) H) Q := by
  intro r
  have hmem : t[y] ∈ t := List.getElem_mem hy
  have hty : t[y]? = some t[y] := List.getElem?_eq_getElem hy
  have h12 := hsm.row _ hmem
  have hlen : (allThr (t.take y)).length ≤ 1000 := by
    have h1 : (allThr (t.take y)).length ≤ 72 * (t.take y).length := allThr_le _ (fun l hl => hsm.row l (List.mem_of_mem_take hl)) fun l hl => hsm.thr l (List.mem_of_mem_take hl)
    have h2 : (t.take y).length ≤ 7 := by have := hsm.len; rw [List.length_take]; omega
    omega
  induction r with
  | zero => intro n v3 H _ h; omega
  | succ r ih =>
    intro n v3 H hn hr hE ho hnb
    show Ev (f23_l8b (C (k + 1)) k' sg5 (f23_l8 (C (k + 1)) k' sg5 r) v0 v3 (.int .i64 y) (.int .i64 n) H) Q
    unfold f23_l8b
    obtain ⟨p, lv, e1, e2, e3⟩ := tb_at (hs.mono hE) (k := .i64) hy
    simp only [e1, e2, onV_s, e3.oLen u59, bin_lss, asB_b, onBool_d]
    by_cases hlt : n < t[y].length
    · rw [if_pos (by omega)]
      unfold f23_r10
      obtain ⟨q, g1, g2⟩ := lp_at e3 (k := .i64) hlt
      obtain ⟨cs, g3, g4, g5, g6⟩ := lp_ld g2
      obtain ⟨H1, f1, f2, f3, f4⟩ := box (P := Try.prog) (t := 62) (H := H) (v := .agg cs.toArray) (cs := cs) (row := [(.int .u8 0), (.bool false), (.slice none 0 0), (.slice none 0 0)]) (e := 62) (gSize_ld ld62) rfl g5 g6
      simp only [e1, e2, onV_s, g1, g3, f1, onH_s]
      have hp : LpAt H1 (.pointer (some ⟨H.n, 0, none⟩)) t[y][n] := ⟨cs, PtC.of f3, tyLp.mono f2 g4⟩
      have hmem2 : t[y][n] ∈ t[y] := List.getElem_mem hlt
      have h6 := hsm.thr _ hmem _ hmem2
      have h6' := hsm.past _ hmem _ hmem2
      have hln : (thrs (t[y].take n)).length ≤ 1000 := by
        have h1 := thrs_le (t[y].take n) fun x hx => hsm.thr _ hmem x (List.mem_of_mem_take hx)
        rw [List.length_take] at h1
        omega
      refine ck_one hs (by rw [List.length_append]; omega) (by omega) (by omega) (by omega) (by omega) (fun hb H' hE' => hbad ⟨y, _, n, _, hty, List.getElem?_eq_getElem hlt, hb⟩ H' hE') (fun hnbx v' H' hE' ho' => ?_) (hE.trans f2) (Own.ext ho f2) hp
      refine ih (n + 1) v' H' (by omega) (by omega) hE' ?_ fun y' l m x c1 c2 c3 => ?_
      · rw [thrs_snoc _ hlt, ← List.append_assoc]; exact ho'
      · rcases c3 with c3 | ⟨c3, c4⟩
        · exact hnb y' l m x c1 c2 (.inl c3)
        · subst c3
          rcases Nat.lt_or_ge m n with h | h
          · exact hnb _ l m x c1 c2 (.inr ⟨rfl, h⟩)
          · have : m = n := by omega
            subst this
            rw [hty] at c1
            have c1 := Option.some.inj c1
            subst c1
            rw [List.getElem?_eq_getElem hlt] at c2
            have c2 := Option.some.inj c2
            rw [← c2]; exact hnbx
    · rw [if_neg (by omega)]
      simp only [bin_add, onV_s]
      have h7 := hsm.len
      rw [wrS (by omega)]
      refine hgo (fun y' l m x c1 c2 c3 => ?_) v3 H hE ?_
      · rcases c3 with c3 | ⟨c3, c4⟩
        · rcases Nat.lt_or_ge y' y with h | h
          · exact hnb y' l m x c1 c2 (.inl h)
          · have : y' = y := by omega
            subst this
            refine hnb _ l m x c1 c2 (.inr ⟨rfl, ?_⟩)
            rw [hty] at c1
            have c1 := Option.some.inj c1
            subst c1
            have := (List.getElem?_eq_some_iff.1 c2).1
            omega
        · omega
      · rw [allThr_snoc t hy]
        rw [List.take_of_length_le (l := t[y]) (i := n) (by omega)] at ho
        exact ho
theorem ck_l5 (hs : SlR tyTab H0 v0 t) (hsm : Small t) (ht : t.length = 6) (hk' : 3000 ≤ k') (hbad : Bad t → ∀ H', Ext H0 H' → Q (.int .i64 1, H'))
    (hgo : ¬ Bad t → ∀ v' H', Ext H0 H' → Own tyId 29 H0 H' v' (allThr t) → Ev (f23_r29 (C (k + 1)) k' v0 v' H') Q) :
    ∀ (r y : Nat) (v3 : Value) (H : GH), y ≤ 6 → 6 - y < r → Ext H0 H → Own tyId 29 H0 H v3 (allThr (t.take y)) → NB t y 0 → Ev (f23_l5 (C (k + 1)) k' r v0 v3 (.int .i64 y) H) Q := by
  intro r
  induction r with
  | zero => intro y v3 H _ h; omega
  | succ r ih =>
    intro y v3 H hy hr hE ho hnb
    show Ev (f23_l5b (C (k + 1)) k' (f23_l5 (C (k + 1)) k' r) v0 v3 (.int .i64 y) H) Q
    unfold f23_l5b
    simp only [bin_lss, onV_s, asB_b, onBool_d]
    by_cases hlt : y < 6
    · rw [if_pos (by omega)]
      have hyt : y < t.length := by omega
      have h12 := hsm.row _ (List.getElem_mem hyt)
      refine ck_l8 hs hsm hk' hbad hyt (fun hnb' v' H' hE' ho' => ih (y + 1) v' H' (by omega) (by omega) hE' ho' hnb') k' 0 v3 H (by omega) (by omega) hE ?_ hnb
      simpa [thrs] using ho
    · rw [if_neg (by omega)]
      refine hgo (fun ⟨y', l, n, x, c1, c2, c3⟩ => ?_) v3 H hE ?_
      · have := (List.getElem?_eq_some_iff.1 c1).1
        exact hnb y' l n x c1 c2 (.inl (by omega)) c3
      · rw [List.take_of_length_le (by omega)] at ho
        exact ho
theorem checked_ok (hk : 5000 ≤ k) (hs : SlR tyTab H v0 t) (hsm : Small t) : Ev (C (k + 2) (.func (.func 23) #[] #[]) [v0] H) fun r => Ext H r.2 ∧ r.1 = .int .i64 (chk t) := by
  rw [C_func T23, f23_eq]
  unfold f23_sh
  simp only [hs.oLen u58, onV_s, bin_neq, asB_b, onBool_d]
  by_cases h6 : t.length = 6
  · rw [if_neg (by omega)]
    refine ck_l5 (t := t) (Q := fun r => Ext H r.2 ∧ r.1 = .int .i64 (chk t)) hs hsm h6 (by omega) (fun hb H' hE' => ⟨hE', ?_⟩) (fun hnb v' H' hE' ho' => ?_) (k + 1) 0 (.slice none 0 0) H (by omega) (by omega) (.refl _) Own.nil fun y' l m x c1 c2 c3 => by omega
    · unfold chk; rw [if_neg (by omega), if_pos hb]
    · unfold f23_r29
      have hlen : (allThr t).length ≤ 1000 := by have := allThr_le t hsm.row hsm.thr; omega
      refine ck_l30 (Q := fun r => Ext H r.2 ∧ r.1 = .int .i64 (chk t)) (ho'.slr hE') (by omega) (by omega) (fun hnd => ⟨hE', ?_⟩) (fun hnd => ?_) (k + 1) 0 (by omega) (by omega) (by simp)
      · unfold chk; rw [if_neg (by omega), if_neg hnb, if_pos hnd]
      · unfold f23_r37
        have hE2 := hE'.push' (.row (inC (List.replicate 7 0)) 160 false)
        refine ck_l39 (b13 := H'.n) (Q := fun r => Ext H r.2 ∧ r.1 = .int .i64 (chk t)) (by omega) (by omega) hnb hsm h6 hs hE'.n (fun D H2 hR hS hE2 => ⟨fun hf => ⟨hE2, ?_⟩, fun hf => ⟨hE2, ?_⟩⟩) (k + 1) (List.replicate 7 0) true _ (fun _ => by omega) (fun _ => by omega) hE2 GH.get_push_new .zero (fun h => by cases h)
        · unfold chk; rw [if_neg (by omega), if_neg hnb, if_neg (fun h => h hnd), if_pos ((full_iff hR hS).2 hf)]
        · unfold chk; rw [if_neg (by omega), if_neg hnb, if_neg (fun h => h hnd), if_neg (fun h => hf ((full_iff hR hS).1 h))]
  · rw [if_pos (by omega)]
    refine Ev.mk ⟨.refl _, ?_⟩
    unfold chk; rw [if_pos h6]
end
end Go.Proofs.Ythicilkmjamefaa
