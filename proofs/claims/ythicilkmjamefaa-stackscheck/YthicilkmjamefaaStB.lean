/- The stacks' functions, on: predicates, twice. -/
import Derived.Test.YthicilkmjamefaaStA
namespace Go.Proofs.Ythicilkmjamefaa
open Go.Gh
set_option linter.unusedVariables false
set_option linter.unusedSimpArgs false

theorem idV_agg (x : Idn) : Value.agg (idC x).toArray = idV x := rfl
theorem loadId {H : GH} {p : Value} {cs : List Value} {x : Idn} (h : PtC H p cs) (hr : tyId.rep H cs x) : gLoad Try.prog 29 p H = some (idV x) := by
  have hr : cs = idC x := hr
  subst hr
  rw [h.loadA ld29]
  rfl
theorem notNamed_ok (k : Nat) (x : Idn) (H : GH) : Ev (C (k + 2) (.func (.func 47) #[] #[]) [idV x] H) fun r => Ext H r.2 ∧ r.1 = .bool (!named x) := by
  rw [C_func T47, f47_eq]
  unfold f47_sh
  have hp := PtC.new H (Value.cells (idV x)).toList 29 false
  simp only [loadId hp rfl, onV_s]
  refine Ev.call0 (named_ok k x _) fun v H' ⟨hE, hv⟩ => ?_
  subst hv
  simp only [not_b, onV_s]
  exact Ev.mk ⟨(Ext.push _ _).trans hE, rfl⟩

/-- A function value that answers a question on names. -/
def PredOk (k : Nat) (pv : Value) (p : Idn → Bool) : Prop := ∀ x H, Ev (C k pv [idV x] H) fun r => Ext H r.2 ∧ r.1 = .bool (p x)
theorem idxf_loop {k k' : Nat} {pv v : Value} {p : Idn → Bool} (hp : PredOk k pv p) {xs : List Idn} (hl : xs.length ≤ 1000000000) : ∀ (r i : Nat) (H : GH), i ≤ xs.length → xs.length - i < r → SlR tyId H v xs →
    Ev (f118_l2 (C k) k' r v pv (.int .i64 xs.length) (.int .i64 i) H) fun x => Ext H x.2 ∧ ∃ n : Int, x.1 = .int .i64 n ∧ (decide (0 ≤ n) = (xs.drop i).any p) := by
  intro r
  induction r with
  | zero => intro i H _ h; omega
  | succ r ih =>
    intro i H hi hr hs
    show Ev (f118_l2b (C k) k' (f118_l2 (C k) k' r) v pv (.int .i64 xs.length) (.int .i64 i) H) _
    unfold f118_l2b
    simp only [bin_lss, onV_s, asB_b, onBool_d]
    by_cases hlt : i < xs.length
    · rw [if_pos (by omega)]
      obtain ⟨q, cs, h1, h2, h3⟩ := hs.at u26 (elemOk_size el29) (k := .i64) hlt
      simp only [h1, onV_s, loadId h2 h3]
      refine Ev.call0 (hp _ H) fun w H' ⟨hE, hw⟩ => ?_
      subst hw
      simp only [asB_b, onBool_i]
      have hd : xs.drop i = xs[i] :: xs.drop (i + 1) := List.drop_eq_getElem_cons hlt
      by_cases hpx : p xs[i] = true
      · rw [if_pos hpx]
        exact Ev.mk ⟨hE, i, rfl, by rw [hd, List.any_cons, hpx]; simp⟩
      · rw [if_neg hpx]
        simp only [bin_add, onV_s]
        rw [Go.IntWalk.i64_in _ (by omega), show ((i : Int) + 1) = ((i + 1 : Nat) : Int) by omega]
        refine (ih (i + 1) H' (by omega) (by omega) (hs.mono hE)).mono fun x hx => ⟨hE.trans hx.1, ?_⟩
        obtain ⟨n, h1, h2⟩ := hx.2
        refine ⟨n, h1, ?_⟩
        rw [h2, hd, List.any_cons]
        simp [hpx]
    · rw [if_neg (by omega)]
      have : xs.drop i = [] := List.drop_eq_nil_of_le (by omega)
      exact Ev.mk ⟨.refl _, -1, rfl, by rw [this]; rfl⟩
theorem idxf_ok {k : Nat} {pv v : Value} {p : Idn → Bool} (hp : PredOk k pv p) {xs : List Idn} (hl : xs.length ≤ 1000000000) (hk : xs.length < k) {H : GH} (hs : SlR tyId H v xs) :
    Ev (C (k + 1) (.func (.func 118) #[] #[]) [v, pv] H) fun x => Ext H x.2 ∧ ∃ n : Int, x.1 = .int .i64 n ∧ (decide (0 ≤ n) = xs.any p) := by
  rw [C_func T118, f118_eq]
  unfold f118_sh
  simp only [hs.oLen u26, onV_s]
  exact idxf_loop hp hl k 0 H (by omega) (by omega) hs
theorem contf_ok {k : Nat} {pv v : Value} {p : Idn → Bool} (hp : PredOk k pv p) {xs : List Idn} (hl : xs.length ≤ 1000000000) (hk : xs.length < k) {H : GH} (hs : SlR tyId H v xs) :
    Ev (C (k + 2) (.func (.func 46) #[] #[]) [v, pv] H) fun x => Ext H x.2 ∧ x.1 = .bool (xs.any p) := by
  rw [C_func T46, f46_eq]
  unfold f46_sh
  refine Ev.call0 (idxf_ok hp hl hk hs) fun w H' ⟨hE, n, hw, hn⟩ => ?_
  have hw : w = .int .i64 n := hw
  subst hw
  simp only [bin_geq, onV_s, hn]
  exact Ev.mk ⟨hE, rfl⟩

theorem gs29 : gSize Try.prog 29 = some 2 := elemOk_size el29
theorem twice_loop {k k' M : Nat} {v : Value} {xs : List Idn} (hl : xs.length ≤ 1000000000) {H0 : GH} (hs : SlR tyId H0 v xs) (hM : H0.n ≤ M) : ∀ (r i : Nat) (H : GH), i ≤ xs.length → xs.length - i < r → Ext H0 H →
    H.get M = some (.map (setE (xs.take i) 0) (xs.take i).length) → (xs.take i).Nodup →
    Ev (f49_l3 (C k) k' r (.map (some M)) v (.int .i64 xs.length) (.int .i64 i) H) fun x => Ext H0 x.2 ∧ x.1 = .bool (decide ¬ xs.Nodup) := by
  intro r
  induction r with
  | zero => intro i H _ h; omega
  | succ r ih =>
    intro i H hi hr hE hg hnd
    show Ev (f49_l3b (C k) k' (f49_l3 (C k) k' r) (.map (some M)) v (.int .i64 xs.length) (.int .i64 i) H) _
    unfold f49_l3b
    simp only [bin_lss, onV_s, asB_b, onBool_d]
    by_cases hlt : i < xs.length
    · rw [if_pos (by omega)]
      obtain ⟨q, cs, h1, h2, h3⟩ := (hs.mono hE).at u26 gs29 (k := .i64) hlt
      simp only [h1, onV_s, loadId h2 h3]
      have hMn := GH.get_lt hg
      have hst := store_row (t := 29) (v := idV xs[i]) (GH.get_push_new (H := H) (o := .row [.int .u8 0, .int .i64 0] 29 false)) gs29 rfl rfl rfl
      simp only [hst, onH_s]
      have hE1 : Ext H0 ((H.push (.row [.int .u8 0, .int .i64 0] 29 false)).set H.n (.row (idV xs[i]).cells.toList 29 false)) := (hE.push' _).set hE.n (Nat.lt_succ_self _) _
      have hg1 : ((H.push (.row [.int .u8 0, .int .i64 0] 29 false)).set H.n (.row (idV xs[i]).cells.toList 29 false)).get M = some (.map (setE (xs.take i) 0) (xs.take i).length) := by
        rw [GH.get_set_other (by omega) (Nat.lt_succ_self _), GH.get_push_old hMn]; exact hg
      have hp1 := PtC.of (GH.get_set_same (o := .row (idV xs[i]).cells.toList 29 false) (GH.get_push_new (H := H) (o := .row [.int .u8 0, .int .i64 0] 29 false)))
      have hn1 : ((H.push (.row [.int .u8 0, .int .i64 0] 29 false)).set H.n (.row (idV xs[i]).cells.toList 29 false)).n = H.n + 1 := rfl
      revert hE1 hg1 hp1 hn1
      generalize (H.push (.row [.int .u8 0, .int .i64 0] 29 false)).set H.n (.row (idV xs[i]).cells.toList 29 false) = H1
      intro hE1 hg1 hp1 hn1
      have hld : gLoad Try.prog 29 (.pointer (some ⟨H.n, 0, none⟩)) H1 = some (idV xs[i]) := loadId hp1 rfl
      simp only [hld, onV_s, set_look _ hg1, asB_b, onBool_d]
      have htk : xs.take (i + 1) = xs.take i ++ [xs[i]] := by rw [List.take_succ_eq_append_getElem hlt]
      by_cases hin : xs[i] ∈ xs.take i
      · rw [if_pos hin]
        have hx : ¬ xs.Nodup := fun hx => by
          have := hx.sublist (List.take_sublist (i + 1) xs)
          rw [htk] at this
          exact (List.nodup_append.1 this).2.2 _ hin _ (List.mem_singleton.2 rfl) rfl
        exact Ev.mk ⟨hE1, by rw [decide_eq_true hx]⟩
      · rw [if_neg hin]
        simp only [set_put _ hin hg1, onH_s, bin_add, onV_s]
        rw [Go.IntWalk.i64_in _ (by omega), show ((i : Int) + 1) = ((i + 1 : Nat) : Int) by omega]
        refine ih (i + 1) _ (by omega) (by omega) (hE1.set hM (GH.get_lt hg1) _) ?_ ?_
        · rw [GH.get_set_same hg1, htk]
        · rw [htk]
          refine List.nodup_append.2 ⟨hnd, by simp, fun a ha b hb => ?_⟩
          rw [List.mem_singleton] at hb
          subst hb
          intro e
          subst e
          exact hin ha
    · rw [if_neg (by omega)]
      have : xs.take i = xs := List.take_of_length_le (by omega)
      rw [this] at hnd
      exact Ev.mk ⟨hE, by simp [hnd]⟩
theorem twice_ok {k : Nat} {v : Value} {xs : List Idn} (hl : xs.length ≤ 1000000000) (hk : xs.length < k) {H : GH} (hs : SlR tyId H v xs) :
    Ev (C (k + 1) (.func (.func 49) #[] #[]) [v] H) fun x => Ext H x.2 ∧ x.1 = .bool (decide ¬ xs.Nodup) := by
  rw [C_func T49, f49_eq]
  unfold f49_sh
  simp only [hs.oLen u26, onV_s]
  exact twice_loop hl hs (Nat.le_refl _) k 0 _ (by omega) (by omega) (.push _ _) GH.get_push_new (by simp)
end Go.Proofs.Ythicilkmjamefaa
