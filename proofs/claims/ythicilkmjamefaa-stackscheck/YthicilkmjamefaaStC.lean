/- The stacks' functions, on: the visit of all needles. -/
import Derived.Test.YthicilkmjamefaaStB
namespace Go.Proofs.Ythicilkmjamefaa
open Go.Gh
set_option linter.unusedVariables false
set_option linter.unusedSimpArgs false

theorem build203 (a1 a2 : Option Addr) (n1 n2 c1 c2 : Nat) (H : GH) : gBuildSlice Try.prog 203 2 [(0, .slice a1 n1 c1), (1, .slice a2 n2 c2)] H = some (.slice (some ⟨H.n, 0, none⟩) 2 2, H.push (.row [.slice a1 n1 c1, .slice a2 n2 c2] 22 false)) := by kernel_rfl
theorem build35 (i j : Int) : oBuild Try.prog 35 [(0, .int .u8 i), (1, .int .i64 j)] = some (.agg #[.int .u8 i, .int .i64 j]) := by kernel_rfl
theorem conv33 (i : Int) : (oConvert Try.prog 3 33 (.int .i64 i)).filter closed = some (.int .u8 (IntKind.wrap .u8 i)) := by kernel_rfl
theorem min40 (i : Int) : (oMinMax Try.prog false [.int .i64 i, .int .i64 40]).filter closed = some (.int .i64 (if 40 < i then 40 else i)) := by kernel_rfl
theorem u203 : Try.prog.underlying 203 = some (.slice 22) := Try.underlying203
theorem gs22 : gSize Try.prog 22 = some 1 := by kernel_rfl
theorem gs26 : gSize Try.prog 26 = some 1 := by kernel_rfl
theorem tySl_rep {α : Type} {A : Ty α} {H : GH} {cs : List Value} {x : List α} (h : (tySl A).rep H cs x) : ∃ v, cs = [v] ∧ SlR A H v x := h

/-- Values of one cell, as they are. -/
def tyRaw : Ty Value where
  sz := 1
  rep _ cs x := cs = [x] ∧ oneC x = true
  len h := by obtain ⟨rfl, _⟩ := h; rfl
  one h := by obtain ⟨rfl, h⟩ := h; simp [h]
  mono _ h := h
section
variable {k k' : Nat} {yv : Value} {I : List (List Idn) → GH → Prop} {S : GH → Prop} {Q : Value × GH → Prop}
/-- What the visitor does with one needle's loops. -/
def StepOk (k : Nat) (yv : Value) (items : List (List Idn)) (I : List (List Idn) → GH → Prop) (S : GH → Prop) : Prop := ∀ D x v H nv, D ++ [x] <+: items → I D H → SlR tyId H v x →
  Ev (C k yv [nv, v] H) fun r => (r.1 = .bool true ∧ I (D ++ [x]) r.2) ∨ (r.1 = .bool false ∧ S r.2)
theorem all_inner {items : List (List Idn)} (hstep : StepOk k yv items I S) {l : List (List Idn)} {v x10 x11 : Value} {bed : Nat} (hbed : bed ≤ 1) {D : List (List Idn)} (hpre : D ++ l.take 40 <+: items) (hread : ∀ D H, I D H → SlR (tySl tyId) H v l) (hl : l.length ≤ 1000000000)
    {sg : Value → Value → Value → Value → GH → M (Value × GH)} (hend : ∀ H, I (D ++ l.take 40) H → Ev (sg yv x10 x11 (.int .i64 (bed + 1 : Nat)) H) Q) (hstop : ∀ H, S H → Q (.tuple #[], H)) :
    ∀ (r i : Nat) (H : GH), i ≤ min l.length 40 → min l.length 40 - i < r → I (D ++ l.take i) H →
    Ev (f117_l4 (C k) k' sg r yv (.int .i64 bed) v x10 x11 (.int .i64 bed) (.int .i64 (min l.length 40 : Nat)) (.int .i64 i) H) Q := by
  intro r
  induction r with
  | zero => intro i H _ h; omega
  | succ r ih =>
    intro i H hi hr hI
    show Ev (f117_l4b (C k) k' sg (f117_l4 (C k) k' sg r) yv (.int .i64 bed) v x10 x11 (.int .i64 bed) (.int .i64 (min l.length 40 : Nat)) (.int .i64 i) H) Q
    unfold f117_l4b
    simp only [bin_lss, onV_s, asB_b, onBool_d]
    by_cases hlt : i < min l.length 40
    · rw [if_pos (by omega)]
      unfold f117_r6
      have hil : i < l.length := by omega
      obtain ⟨q, cs, h1, h2, h3⟩ := (hread _ _ hI).at u22 gs26 (k := .i64) hil
      obtain ⟨w, rfl, hw⟩ := tySl_rep h3
      simp only [conv33, onV_s, bin_add, build35, h1, h2.load1 ld26]
      have htk : l.take (i + 1) = l.take i ++ [l[i]] := by rw [List.take_succ_eq_append_getElem hil]
      have hpr : D ++ l.take i ++ [l[i]] <+: items := by
        rw [List.append_assoc, ← htk]
        exact ((List.prefix_append_right_inj D).2 (List.take_prefix_take_left (by omega))).trans hpre
      refine Ev.call0 (hstep _ _ w H _ hpr hI hw) fun b H' hb => ?_
      rcases hb with ⟨rfl, hb⟩ | ⟨rfl, hb⟩
      · simp only [not_b, onV_s, asB_b, Bool.not_true, onBool_f, bin_add]
        rw [Go.IntWalk.i64_in _ (by omega), show ((i : Int) + 1) = ((i + 1 : Nat) : Int) by omega]
        refine ih (i + 1) H' (by omega) (by omega) ?_
        rw [htk, ← List.append_assoc]
        exact hb
      · simp only [not_b, onV_s, asB_b, Bool.not_false, onBool_t]
        exact Ev.mk (hstop _ hb)
    · rw [if_neg (by omega)]
      simp only [bin_add, onV_s]
      rw [Go.IntWalk.i64_in _ (by omega), show ((bed : Int) + 1) = ((bed + 1 : Nat) : Int) by omega]
      refine hend H ?_
      have e : l.take i = l.take 40 := by
        rcases Nat.lt_or_ge l.length 40 with h | h
        · rw [List.take_of_length_le (by omega), List.take_of_length_le (by omega)]
        · congr 1; omega
      rw [← e]; exact hI
end

theorem minI (n : Nat) : (if (40 : Int) < (n : Int) then (40 : Int) else (n : Int)) = ((min n 40 : Nat) : Int) := by
  by_cases h : 40 < n
  · rw [if_pos (by omega), Nat.min_eq_right (by omega)]; rfl
  · rw [if_neg (by omega), Nat.min_eq_left (by omega)]

/-- The visit: the front bed's needles, then the back bed's; at most forty each. -/
theorem all_ok {k : Nat} {yv : Value} {I : List (List Idn) → GH → Prop} {S : GH → Prop} {front back : List (List Idn)} (hstep : StepOk k yv (front.take 40 ++ back.take 40) I S) {vF vB : Value} {H : GH} {b : Nat} {e : TypeId} {ro : Bool}
    (hk : 100 ≤ k) (hb : H.get b = some (.row [vF, vB] e ro)) (hF : SlR (tySl tyId) H vF front) (hB : SlR (tySl tyId) H vB back) (hlF : front.length ≤ 1000000000) (hlB : back.length ≤ 1000000000)
    (h0 : I [] (H.push (.row [vF, vB] 22 false))) (hrow : ∀ D H', I D H' → H'.get H.n = some (.row [vF, vB] 22 false)) (hreadF : ∀ D H', I D H' → SlR (tySl tyId) H' vF front) (hreadB : ∀ D H', I D H' → SlR (tySl tyId) H' vB back) :
    Ev (C (k + 1) (.func (.func 117) #[] #[.pointer (some ⟨b, 0, none⟩)]) [yv] H) fun r => r.1 = .tuple #[] ∧ (I (front.take 40 ++ back.take 40) r.2 ∨ S r.2) := by
  rw [C_clos T117]
  show Ev (gFunc Try.prog (C k) k Try.f117 [yv, .pointer (some ⟨b, 0, none⟩)] H) _
  rw [f117_eq]
  unfold f117_sh
  have hp := PtC.of hb
  obtain ⟨q0, e0, p0⟩ := hp.field fd24_0 (by simp)
  obtain ⟨q1, e1, p1⟩ := hp.field fd24_1 (by simp)
  have l0 := PtC.load1 (c := vF) p0 ld22
  have l1 := PtC.load1 (c := vB) p1 ld22
  simp only [e0, onV_s, l0, e1, l1]
  obtain ⟨aF, cF, rfl⟩ := hF.val
  obtain ⟨aB, cB, rfl⟩ := hB.val
  rw [build203]
  simp only [onVH_s]
  have hlen : oLen Try.prog 203 (.slice (some ⟨H.n, 0, none⟩) 2 2) = some (.int .i64 2) := by unfold oLen; rw [u203]; rfl
  simp only [hlen, onV_s]
  -- where the two slices lie
  have hsl : ∀ H' : GH, H'.get H.n = some (.row [.slice aF front.length cF, .slice aB back.length cB] 22 false) → SlR tyRaw H' (.slice (some ⟨H.n, 0, none⟩) 2 2) [.slice aF front.length cF, .slice aB back.length cB] :=
    fun H' hg => .inr ⟨H.n, 0, 2, _, 22, false, _, rfl, hg, by simp, rfl, .cons (c := [_]) ⟨rfl, rfl⟩ (.cons (c := [_]) ⟨rfl, rfl⟩ .nil)⟩
  obtain ⟨r, rfl⟩ : ∃ r, k = r + 3 := ⟨k - 3, by omega⟩
  -- the third round: the end
  have h3 : ∀ H', I (front.take 40 ++ back.take 40) H' → Ev (f117_l1 (C (r + 3)) (r + 3) (r + 1) yv (.slice (some ⟨H.n, 0, none⟩) 2 2) (.int .i64 2) (.int .i64 (2 : Nat)) H') fun x => x.1 = .tuple #[] ∧ (I (front.take 40 ++ back.take 40) x.2 ∨ S x.2) := by
    intro H' hI
    show Ev (f117_l1b (C (r + 3)) (r + 3) (f117_l1 (C (r + 3)) (r + 3) r) yv _ _ _ H') _
    unfold f117_l1b
    simp only [bin_lss, onV_s, asB_b, onBool_d]
    rw [if_neg (by omega)]
    exact Ev.mk ⟨rfl, .inl hI⟩
  have h2 : ∀ H', I (front.take 40) H' → Ev (f117_l1 (C (r + 3)) (r + 3) (r + 2) yv (.slice (some ⟨H.n, 0, none⟩) 2 2) (.int .i64 2) (.int .i64 (1 : Nat)) H') fun x => x.1 = .tuple #[] ∧ (I (front.take 40 ++ back.take 40) x.2 ∨ S x.2) := by
    intro H' hI
    show Ev (f117_l1b (C (r + 3)) (r + 3) (f117_l1 (C (r + 3)) (r + 3) (r + 1)) yv _ _ _ H') _
    unfold f117_l1b
    simp only [bin_lss, onV_s, asB_b, onBool_d]
    rw [if_pos (by omega)]
    obtain ⟨q, cs, g1, g2, g3⟩ := (hsl H' (hrow _ _ hI)).at u203 gs22 (k := .i64) (i := 1) (by simp)
    obtain ⟨rfl, _⟩ := g3
    have g4 : PtC H' q [.slice aB back.length cB] := g2
    have g5 := PtC.load1 (P := Try.prog) (t := 22) g4 ld22
    have hlB' : oLen Try.prog 22 (.slice aB back.length cB) = some (.int .i64 back.length) := by unfold oLen; rw [u22]
    simp only [g1, onV_s, g5, hlB', onV_s, min40, minI]
    exact all_inner hstep (bed := 1) (by omega) (D := front.take 40) (l := back) (v := .slice aB back.length cB) (List.prefix_refl _) (hreadB) hlB h3 (fun _ hS => ⟨rfl, .inr hS⟩) (r + 3) 0 H' (by omega) (by omega) (by simpa using hI)
  show Ev (f117_l1b (C (r + 3)) (r + 3) (f117_l1 (C (r + 3)) (r + 3) (r + 2)) yv _ _ (.int .i64 (0 : Nat)) _) _
  unfold f117_l1b
  simp only [bin_lss, onV_s, asB_b, onBool_d]
  rw [if_pos (by omega)]
  obtain ⟨q, cs, g1, g2, g3⟩ := (hsl _ (hrow _ _ h0)).at u203 gs22 (k := .i64) (i := 0) (by simp)
  obtain ⟨rfl, _⟩ := g3
  have g4 : PtC _ q [.slice aF front.length cF] := g2
  have g5 := PtC.load1 (P := Try.prog) (t := 22) g4 ld22
  have hlF' : oLen Try.prog 22 (.slice aF front.length cF) = some (.int .i64 front.length) := by unfold oLen; rw [u22]
  simp only [g1, onV_s, g5, hlF', onV_s, min40, minI]
  exact all_inner hstep (bed := 0) (by omega) (D := []) (l := front) (v := .slice aF front.length cF) (List.prefix_append _ _) (hreadF) hlF (by simpa using h2) (fun _ hS => ⟨rfl, .inr hS⟩) (r + 3) 0 _ (by omega) (by omega) (by simpa using h0)
end Go.Proofs.Ythicilkmjamefaa
