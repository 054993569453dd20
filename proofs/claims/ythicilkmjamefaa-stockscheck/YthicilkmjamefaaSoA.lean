/- The stocks' data: cones, holds; which are valid; how holds are ordered. -/
import Derived.Test.YthicilkmjamefaaGpShCall
import Derived.Test.YthicilkmjamefaaSoT
import Derived.Test.YthicilkmjamefaaShS34
import Derived.Test.YthicilkmjamefaaShS98
namespace Go.Proofs.Ythicilkmjamefaa
open Go.Gh
set_option linter.unusedVariables false
set_option linter.unusedSimpArgs false

/-- The handle by which functions call. -/
noncomputable def C (k : Nat) : Handle := gCallC Try.prog fnT clo k
theorem C_func {k f : Nat} {fn : Func} {args : List Value} {H : GH} (h : fnT f = some fn) : C (k + 1) (.func (.func f) #[] #[]) args H = gFunc Try.prog (C k) k fn args H := by
  show (match fnT f with | some fn => gFunc Try.prog (C k) k fn (#[].toList ++ args ++ #[].toList) H | none => _) = _
  rw [h]
  simp
theorem C_clos {k f : Nat} {fn : Func} {cs : Array Value} {args : List Value} {H : GH} (h : fnT f = some fn) : C (k + 1) (.func (.func f) #[] cs) args H = gFunc Try.prog (C k) k fn (args ++ cs.toList) H := by
  show (match fnT f with | some fn => gFunc Try.prog (C k) k fn (#[].toList ++ args ++ cs.toList) H | none => _) = _
  rw [h]
  simp
theorem C_none {k f : Nat} {v : Value} {H : GH} (h : fnT f = none) (hc : clo f = some v) : C (k + 1) (.func (.func f) #[] #[]) [] H = some [(v, H)] := by
  show (match fnT f with | some fn => _ | none => match clo f, (#[].toList ++ [] ++ #[].toList : List Value) with | some v, [] => some [(v, H)] | _, _ => none) = _
  rw [h, hc]
  rfl

structure ConeD where
  art : Int
  len : Int
structure HoldD where
  ord : Int
  art : Int
  len : Int
def coC (c : ConeD) : List Value := [.int .i64 c.art, .int .i64 c.len]
def coV (c : ConeD) : Value := .agg #[.int .i64 c.art, .int .i64 c.len]
def hoC (h : HoldD) : List Value := [.int .i64 h.ord, .int .i64 h.art, .int .i64 h.len]
def hoV (h : HoldD) : Value := .agg #[.int .i64 h.ord, .int .i64 h.art, .int .i64 h.len]
def tyCo : Ty ConeD where
  sz := 2
  rep _ cs x := cs = coC x
  len h := by subst h; rfl
  one h := by subst h; rfl
  mono _ h := h
def tyHo : Ty HoldD where
  sz := 3
  rep _ cs x := cs = hoC x
  len h := by subst h; rfl
  one h := by subst h; rfl
  mono _ h := h
theorem flat_co : tyCo.Flat := fun _ _ _ _ h => h
theorem flat_ho : tyHo.Flat := fun _ _ _ _ h => h
theorem gets_co : tyCo.Gets := fun _ _ _ _ _ h => h
theorem gets_ho : tyHo.Gets := fun _ _ _ _ _ h => h
theorem ld93 : ldOk Try.prog 93 true 2 = true := by kernel_rfl
theorem ld91 : ldOk Try.prog 91 true 3 = true := by kernel_rfl
theorem ld88 : ldOk Try.prog 88 true 2 = true := by kernel_rfl
theorem ld3 : ldOk Try.prog 3 false 1 = true := by kernel_rfl
theorem ld85 : ldOk Try.prog 85 false 1 = true := by kernel_rfl
theorem ld86 : ldOk Try.prog 86 false 1 = true := by kernel_rfl
theorem fd93_0 : fdOk Try.prog 93 0 0 1 = true := by kernel_rfl
theorem fd93_1 : fdOk Try.prog 93 1 1 1 = true := by kernel_rfl
theorem fd91_0 : fdOk Try.prog 91 0 0 1 = true := by kernel_rfl
theorem fd91_1 : fdOk Try.prog 91 1 1 1 = true := by kernel_rfl
theorem fd91_2 : fdOk Try.prog 91 2 2 1 = true := by kernel_rfl
theorem fd88_0 : fdOk Try.prog 88 0 0 1 = true := by kernel_rfl
theorem fd88_1 : fdOk Try.prog 88 1 1 1 = true := by kernel_rfl
theorem el93 : elemOk Try.prog 93 2 = true := by kernel_rfl
theorem el91 : elemOk Try.prog 91 3 = true := by kernel_rfl
theorem el3 : elemOk Try.prog 3 1 = true := by kernel_rfl
theorem u85 : Try.prog.underlying 85 = some (.slice 93) := Try.underlying85
theorem u86 : Try.prog.underlying 86 = some (.slice 91) := Try.underlying86
theorem u71 : Try.prog.underlying 71 = some (.slice 3) := Try.underlying71
theorem build93 (a l : Int) : oBuild Try.prog 93 [(0, .int .i64 a), (1, .int .i64 l)] = some (coV ⟨a, l⟩) := by kernel_rfl
section
variable {H : GH} {p v : Value} {cs : List Value}
theorem co_f {x : ConeD} (h : PtC H p (coC x)) : ∃ q0 q1, oFieldAddr Try.prog 93 p 0 = some q0 ∧ gLoad Try.prog 3 q0 H = some (.int .i64 x.art) ∧ oFieldAddr Try.prog 93 p 1 = some q1 ∧ gLoad Try.prog 3 q1 H = some (.int .i64 x.len) := by
  obtain ⟨q0, a0, b0⟩ := h.f1 fd93_0 ld3 rfl
  obtain ⟨q1, a1, b1⟩ := h.f1 fd93_1 ld3 rfl
  exact ⟨q0, q1, a0, b0, a1, b1⟩
theorem ho_f {x : HoldD} (h : PtC H p (hoC x)) : ∃ q0 q1 q2, oFieldAddr Try.prog 91 p 0 = some q0 ∧ gLoad Try.prog 3 q0 H = some (.int .i64 x.ord) ∧ oFieldAddr Try.prog 91 p 1 = some q1 ∧ gLoad Try.prog 3 q1 H = some (.int .i64 x.art) ∧ oFieldAddr Try.prog 91 p 2 = some q2 ∧ gLoad Try.prog 3 q2 H = some (.int .i64 x.len) := by
  obtain ⟨q0, a0, b0⟩ := h.f1 fd91_0 ld3 rfl
  obtain ⟨q1, a1, b1⟩ := h.f1 fd91_1 ld3 rfl
  obtain ⟨q2, a2, b2⟩ := h.f1 fd91_2 ld3 rfl
  exact ⟨q0, q1, q2, a0, b0, a1, b1, a2, b2⟩
theorem co_ld {x : ConeD} (h : PtC H p (coC x)) : gLoad Try.prog 93 p H = some (coV x) := h.loadA ld93
theorem ho_ld {x : HoldD} (h : PtC H p (hoC x)) : gLoad Try.prog 91 p H = some (hoV x) := h.loadA ld91
theorem co_at {xs : List ConeD} (h : SlR tyCo H v xs) {k : IntKind} {i : Nat} (hi : i < xs.length) : ∃ p, oIndexAddr Try.prog 85 v (.int k i) = some p ∧ PtC H p (coC xs[i]) := by
  obtain ⟨p, cs, h1, h2, rfl⟩ := h.at u85 (elemOk_size el93) (k := k) hi
  exact ⟨p, h1, h2⟩
theorem ho_at {xs : List HoldD} (h : SlR tyHo H v xs) {k : IntKind} {i : Nat} (hi : i < xs.length) : ∃ p, oIndexAddr Try.prog 86 v (.int k i) = some p ∧ PtC H p (hoC xs[i]) := by
  obtain ⟨p, cs, h1, h2, rfl⟩ := h.at u86 (elemOk_size el91) (k := k) hi
  exact ⟨p, h1, h2⟩
end
/-- A stock, as a value. -/
def stV (vC vH : Value) : Value := .agg #[vC, vH]
structure StI (H : GH) (vC vH : Value) (cs : List ConeD) (hs : List HoldD) : Prop where
  c : SlR tyCo H vC cs
  h : SlR tyHo H vH hs
theorem StI.mono {H H' : GH} {vC vH : Value} {cs : List ConeD} {hs : List HoldD} (h : StI H vC vH cs hs) (hE : Ext H H') : StI H' vC vH cs hs := ⟨h.c.mono hE, h.h.mono hE⟩
theorem StI.lo {H : GH} {lo : Nat} {vC vH : Value} {cs : List ConeD} {hs : List HoldD} (h : StI H vC vH cs hs) : StI { H with lo := lo } vC vH cs hs := ⟨h.c.lo gets_co, h.h.lo gets_ho⟩
theorem st_f {H : GH} {p vC vH : Value} (h : PtC H p [vC, vH]) : ∃ q0 q1, oFieldAddr Try.prog 88 p 0 = some q0 ∧ gLoad Try.prog 85 q0 H = some vC ∧ oFieldAddr Try.prog 88 p 1 = some q1 ∧ gLoad Try.prog 86 q1 H = some vH := by
  obtain ⟨q0, a0, b0⟩ := h.f1 fd88_0 ld85 rfl
  obtain ⟨q1, a1, b1⟩ := h.f1 fd88_1 ld86 rfl
  exact ⟨q0, q1, a0, b0, a1, b1⟩
theorem st_ld {H : GH} {p vC vH : Value} (h : PtC H p [vC, vH]) : gLoad Try.prog 88 p H = some (stV vC vH) := h.loadA ld88

def coneOk (c : ConeD) : Bool := decide (1 ≤ c.art) && (decide (c.art ≤ 1000) && (decide (1 ≤ c.len) && decide (c.len ≤ 1000000000)))
def holdOk (h : HoldD) : Bool := decide (1 ≤ h.ord) && (decide (h.ord ≤ 100000) && coneOk ⟨h.art, h.len⟩)
theorem coneOk_ok {k : Nat} {c : ConeD} {H : GH} : Ev (C (k + 1) (.func (.func 94) #[] #[]) [coV c] H) fun r => Ext H r.2 ∧ r.1 = .bool (coneOk c) := by
  rw [C_func T94, f94_eq]
  unfold f94_sh f94_r1
  have hE : Ext H (H.push (.row (Value.cells (coV c)).toList 93 false)) := Ext.push _ _
  have hp : PtC (H.push (.row (Value.cells (coV c)).toList 93 false)) (.pointer (some ⟨H.n, 0, none⟩)) (coC c) := PtC.new H _ _ _
  revert hE hp
  generalize H.push (.row (Value.cells (coV c)).toList 93 false) = H1
  intro hE hp
  obtain ⟨q0, q1, a0, b0, a1, b1⟩ := co_f hp
  simp only [a0, onV_s, b0, bin_geq, f94_g1_4, asB_b, onBool_d]
  unfold coneOk
  by_cases c1 : 1 ≤ c.art
  · simp only [c1, if_true, decide_true, Bool.true_and, a0, onV_s, b0, bin_leq, f94_g1_9, asB_b, onBool_d]
    by_cases c2 : c.art ≤ 1000
    · simp only [c2, if_true, decide_true, Bool.true_and, a1, onV_s, b1, bin_geq, f94_g1_14, asB_b, onBool_d]
      by_cases c3 : 1 ≤ c.len
      · simp only [c3, if_true, decide_true, Bool.true_and, a1, onV_s, b1, bin_leq]
        exact Ev.mk ⟨hE, rfl⟩
      · simp only [c3, if_false, decide_false, Bool.false_and]
        exact Ev.mk ⟨hE, rfl⟩
    · simp only [c2, if_false, decide_false, Bool.false_and]
      exact Ev.mk ⟨hE, rfl⟩
  · simp only [c1, if_false, decide_false, Bool.false_and]
    exact Ev.mk ⟨hE, rfl⟩
theorem holdOk_ok {k : Nat} {h : HoldD} {H : GH} : Ev (C (k + 2) (.func (.func 95) #[] #[]) [hoV h] H) fun r => Ext H r.2 ∧ r.1 = .bool (holdOk h) := by
  rw [C_func T95, f95_eq]
  unfold f95_sh f95_r1
  have hE : Ext H (H.push (.row (Value.cells (hoV h)).toList 91 false)) := Ext.push _ _
  have hp : PtC (H.push (.row (Value.cells (hoV h)).toList 91 false)) (.pointer (some ⟨H.n, 0, none⟩)) (hoC h) := PtC.new H _ _ _
  revert hE hp
  generalize H.push (.row (Value.cells (hoV h)).toList 91 false) = H1
  intro hE hp
  obtain ⟨q0, q1, q2, a0, b0, a1, b1, a2, b2⟩ := ho_f hp
  simp only [a0, onV_s, b0, bin_geq, f95_g1_4, asB_b, onBool_d]
  unfold holdOk
  by_cases c1 : 1 ≤ h.ord
  · simp only [c1, if_true, decide_true, Bool.true_and, a0, onV_s, b0, bin_leq, f95_g1_9, asB_b, onBool_d]
    by_cases c2 : h.ord ≤ 100000
    · simp only [c2, if_true, decide_true, Bool.true_and, a1, a2, onV_s, b1, b2, build93]
      refine Ev.call0 (coneOk_ok (k := k)) fun w H2 ⟨hE2, hw⟩ => ?_
      simp only at hE2 hw
      subst hw
      exact Ev.mk ⟨hE.trans hE2, rfl⟩
    · simp only [c2, if_false, decide_false, Bool.false_and]
      exact Ev.mk ⟨hE, rfl⟩
  · simp only [c1, if_false, decide_false, Bool.false_and]
    exact Ev.mk ⟨hE, rfl⟩

/-! ### How holds are ordered -/
def cmpI (a b : Int) : Int := if a < b then -1 else if b < a then 1 else 0
theorem isNaN_ok {k : Nat} {a : Int} {H : GH} : Ev (C (k + 1) (.func (.func 164) #[] #[]) [.int .i64 a] H) fun r => r = (.bool false, H) := by
  rw [C_func T164, f164_eq]
  unfold f164_sh
  simp only [bin_neq, onV_s]
  exact Ev.mk (by simp)
theorem cmp_ok {k : Nat} {a b : Int} {H : GH} : Ev (C (k + 2) (.func (.func 112) #[] #[]) [.int .i64 a, .int .i64 b] H) fun r => r = (.int .i64 (cmpI a b), H) := by
  rw [C_func T112, f112_eq]
  unfold f112_sh
  refine Ev.call0 (isNaN_ok (k := k)) fun w H2 hw => ?_
  injection hw with h1 h2
  subst h1; subst h2
  refine Ev.call0 (isNaN_ok (k := k)) fun w H3 hw => ?_
  injection hw with h1 h2
  subst h1; subst h2
  simp only [asB_b, onBool_f, bin_lss, onV_s, onBool_d]
  unfold cmpI
  by_cases h1 : a < b
  · rw [if_pos h1, if_pos h1]; exact Ev.mk rfl
  · rw [if_neg h1, if_neg h1]
    simp only [bin_gtr, onV_s, asB_b, onBool_d]
    by_cases h2 : b < a
    · rw [if_pos h2, if_pos h2]; exact Ev.mk rfl
    · rw [if_neg h2, if_neg h2]; exact Ev.mk rfl
def cmpH (a b : HoldD) : Int := if cmpI a.ord b.ord ≠ 0 then cmpI a.ord b.ord else cmpI a.art b.art
theorem build71_2 {H : GH} {a b : Int} : gBuildSlice Try.prog 71 2 [(0, .int .i64 a), (1, .int .i64 b)] H = some (.slice (some ⟨H.n, 0, none⟩) 2 2, H.push (.row [.int .i64 a, .int .i64 b] 3 false)) := by kernel_rfl
theorem or_ok {k : Nat} (hk : 10 ≤ k) {a b : Int} {bk : Nat} {H : GH} (hg : H.get bk = some (.row [.int .i64 a, .int .i64 b] 3 false)) : Ev (C (k + 1) (.func (.func 156) #[] #[]) [.slice (some ⟨bk, 0, none⟩) 2 2] H) fun r => r = (.int .i64 (if a ≠ 0 then a else b), H) := by
  rw [C_func T156, f156_eq]
  unfold f156_sh
  have ho : oLen Try.prog 71 (.slice (some ⟨bk, 0, none⟩) 2 2) = some (.int .i64 (2 : Nat)) := by unfold oLen; rw [u71]
  have hgs : gSize Try.prog 3 = some 1 := gSize_ld ld3
  have hi : ∀ i : Nat, i < 2 → oIndexAddr Try.prog 71 (.slice (some ⟨bk, 0, none⟩) 2 2) (.int .i64 i) = some (.pointer (some ⟨bk, i, none⟩)) := fun i h => by
    unfold oIndexAddr
    simp only [u71]
    rw [if_pos ⟨by omega, by omega⟩, hgs]
    simp only [Option.map_some, Int.toNat_natCast, Nat.mul_one]
    unfold Addr.add
    by_cases h0 : i = 0
    · simp [h0]
    · simp [h0]
  have l0 : gLoad Try.prog 3 (.pointer (some ⟨bk, 0, none⟩)) H = some (.int .i64 a) := PtC.load1 (P := Try.prog) (t := 3) ⟨bk, 0, _, _, _, rfl, hg, by simp, rfl⟩ ld3
  have l1 : gLoad Try.prog 3 (.pointer (some ⟨bk, 1, none⟩)) H = some (.int .i64 b) := PtC.load1 (P := Try.prog) (t := 3) ⟨bk, 1, _, _, _, rfl, hg, by simp, rfl⟩ ld3
  obtain ⟨r, rfl⟩ : ∃ r, k = r + 3 := ⟨k - 3, by omega⟩
  simp only [ho, onV_s]
  show Ev (f156_l3b (C (r + 3)) (r + 3) (f156_l3 (C (r + 3)) (r + 3) (r + 2)) (.int .i64 0) _ (.int .i64 (2 : Nat)) (.int .i64 (0 : Nat)) H) _
  unfold f156_l3b
  simp only [bin_lss, onV_s, asB_b, onBool_d]
  rw [if_pos (by omega)]
  simp only [hi 0 (by omega), l0, onV_s, bin_neq, asB_b, onBool_d]
  by_cases h0 : a = 0
  · rw [if_neg (by omega)]
    simp only [bin_add, onV_s]
    rw [wrS (by omega)]
    show Ev (f156_l3b (C (r + 3)) (r + 3) (f156_l3 (C (r + 3)) (r + 3) (r + 1)) (.int .i64 0) _ (.int .i64 (2 : Nat)) (.int .i64 (1 : Nat)) H) _
    unfold f156_l3b
    simp only [bin_lss, onV_s, asB_b, onBool_d]
    rw [if_pos (by omega)]
    simp only [hi 1 (by omega), l1, onV_s, bin_neq, asB_b, onBool_d]
    by_cases h1 : b = 0
    · rw [if_neg (by omega)]
      simp only [bin_add, onV_s]
      rw [wrS (by omega)]
      show Ev (f156_l3b (C (r + 3)) (r + 3) (f156_l3 (C (r + 3)) (r + 3) r) (.int .i64 0) _ (.int .i64 (2 : Nat)) (.int .i64 (2 : Nat)) H) _
      unfold f156_l3b
      simp only [bin_lss, onV_s, asB_b, onBool_d]
      rw [if_neg (by omega)]
      exact Ev.mk (by rw [if_neg (by omega), h1])
    · rw [if_pos (by omega)]
      exact Ev.mk (by rw [if_neg (by omega)])
  · rw [if_pos (by omega)]
    exact Ev.mk (by rw [if_pos h0])
theorem cmpH_ok {k : Nat} (hk : 20 ≤ k) {a b : HoldD} {H : GH} : Ev (C (k + 3) (.func (.func 96) #[] #[]) [hoV a, hoV b] H) fun r => Ext H r.2 ∧ r.1 = .int .i64 (cmpH a b) := by
  rw [C_func T96, f96_eq]
  unfold f96_sh f96_r1
  have hE : Ext H ((H.push (.row (Value.cells (hoV a)).toList 91 false)).push (.row (Value.cells (hoV b)).toList 91 false)) := (Ext.push _ _).push' _
  have hp : PtC ((H.push (.row (Value.cells (hoV a)).toList 91 false)).push (.row (Value.cells (hoV b)).toList 91 false)) (.pointer (some ⟨H.n, 0, none⟩)) (hoC a) := (PtC.new H _ _ _).mono (Ext.push _ _)
  have hq : PtC ((H.push (.row (Value.cells (hoV a)).toList 91 false)).push (.row (Value.cells (hoV b)).toList 91 false)) (.pointer (some ⟨(H.push (.row (Value.cells (hoV a)).toList 91 false)).n, 0, none⟩)) (hoC b) := PtC.new _ _ _ _
  revert hE hp hq
  generalize (.pointer (some ⟨(H.push (.row (Value.cells (hoV a)).toList 91 false)).n, 0, none⟩) : Value) = q
  generalize (.pointer (some ⟨H.n, 0, none⟩) : Value) = p
  generalize (H.push (.row (Value.cells (hoV a)).toList 91 false)).push (.row (Value.cells (hoV b)).toList 91 false) = H1
  intro hE hp hq
  obtain ⟨q0, q1, q2, a0, b0, a1, b1, a2, b2⟩ := ho_f hp
  obtain ⟨z0, z1, z2, c0, d0, c1, d1, c2, d2⟩ := ho_f hq
  have hc : ∀ x y : Int, ∀ H', Sp (C (k + 2)) (.func (.func 112) #[] #[]) [.int .i64 x, .int .i64 y] H' fun v H2 => v = .int .i64 (cmpI x y) ∧ ∀ b, H2.get b = H'.get b := fun x y H' =>
    Sp.of (fun lo => (cmp_ok (k := k)).mono fun z hz => by rw [hz]; exact ⟨.refl _, rfl, fun b => rfl⟩) fun v H2 lo' h => ⟨h.1, fun b => h.2 b⟩
  simp only [a0, b0, c0, d0, onV_s]
  refine Ev.call 2 (hc _ _ _) fun w H2 hE2 hw => ?_
  obtain ⟨rfl, _⟩ := hw
  obtain ⟨q0', q1', q2', a0', b0', a1', b1', a2', b2'⟩ := ho_f (hp.mono hE2)
  obtain ⟨z0', z1', z2', c0', d0', c1', d1', c2', d2'⟩ := ho_f (hq.mono hE2)
  simp only [a1', b1', c1', d1', onV_s]
  refine Ev.call 2 (hc _ _ _) fun w H3 hE3 hw => ?_
  obtain ⟨rfl, _⟩ := hw
  simp only [build71_2, onVH_s]
  refine Ev.call 2 (R := fun v _ => v = .int .i64 (cmpH a b)) (Sp.of (fun lo => (or_ok (k := k + 1) (by omega) (a := cmpI a.ord b.ord) (b := cmpI a.art b.art) (bk := H3.n) (by exact GH.get_push_new)).mono fun z hz => by rw [hz]; exact ⟨.refl _, rfl⟩) fun _ _ _ h => h) fun w H4 hE4 hw => ?_
  subst hw
  exact Ev.mk ⟨(((hE.trans hE2).trans hE3).push' _).trans hE4, rfl⟩
end Go.Proofs.Ythicilkmjamefaa
