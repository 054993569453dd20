/- Tapes: which operations are valid; copies, clipped ones, equal ones. -/
import Derived.Test.YtdhadannleldiaaDoorTaC
import Derived.Test.YtdhadannleldiaaDoorGpShCall
namespace Go.Proofs.YtdhadannleldiaaDoor
open Go.Gh
set_option linter.unusedVariables false
set_option linter.unusedSimpArgs false

/-! ### Check -/
theorem eqInt42 (x y : Int) : quick Tryd.prog (Op.equal 42 (.int .u8 x) (.int .u8 y)) = some (decide (x = y)) := by
  have h : quick Tryd.prog (Op.equal 42 (.int .u8 x) (.int .u8 y)) = some (x == y) := quick_eqInt 9999 42 .u8 .u8 x y Tryd.underlying42
  rw [h]
  congr 1
theorem keyOk42 (x : Int) : gKeyOk Tryd.prog 42 (.int .u8 x) = true := by
  have h : gKeyOk Tryd.prog 42 (.int .u8 x) = Instr.sameBits 10000 (.int .u8 x) (.int .u8 x) := by kernel_rfl
  rw [h]
  simp [Instr.sameBits]
def uV (d n y r : Bool) : Value := .agg #[.bool d, .bool n, .bool y, .bool r]
noncomputable def TK : KeyT Tryd.prog 82 Int where
  kt := 42
  et := 80
  kv x := .int .u8 x
  z := uV false false false false
  und := Tryd.underlying82
  eq := eqInt42
  ok := keyOk42
  same x := by simp [Instr.sameBits]
  zero := by kernel_rfl
def esU : List (Ent Int) := [⟨1, uV true false true false, 0⟩, ⟨2, uV false false true false, 1⟩, ⟨3, uV false false false true, 2⟩, ⟨4, uV true true true false, 3⟩, ⟨5, uV true true true false, 4⟩, ⟨6, uV true true true false, 5⟩, ⟨7, uV false true false false, 6⟩, ⟨8, uV false true false false, 7⟩]
theorem ld80 : ldOk Tryd.prog 80 true 4 = true := by kernel_rfl
/-- What the kinds use. -/
theorem used_ok {k : Nat} {H : GH} : Ev (C (k + 1) (.func (.func 33) #[] #[]) [] H) fun r => Ext H r.2 ∧ ∃ R, r.1 = .map (some R) ∧ r.2.get R = some (.map (mE TK esU) 8) := by
  rw [C_func T33, f33_eq]
  unfold f33_sh
  obtain ⟨H1, f1, f2, f3, f4⟩ := box (P := Tryd.prog) (t := 80) (H := H) (v := uV true true true false) (cs := [.bool true, .bool true, .bool true, .bool false]) (row := [(.bool false), (.bool false), (.bool false), (.bool false)]) (e := 80) (gSize_ld ld80) rfl rfl rfl
  have f1' : gStore Tryd.prog 80 (.pointer (some ⟨H.n, 0, none⟩)) (.agg #[(.bool true), (.bool true), (.bool true), (.bool false)]) (GH.push H (.row [(.bool false), (.bool false), (.bool false), (.bool false)] 80 false)) = some H1 := f1
  simp only [f1', onH_s]
  unfold f33_r2
  have hE0 : Ext H (H1.push (.map [] 0)) := f2.push' _
  have hn : H.n ≤ H1.n := f2.n
  have key : ∀ (G : GH) (es : List (Ent Int)) (cl : Nat) (x : Int) (v : Value) (K : GH → M (Value × GH)) (Q : Value × GH → Prop), Ext H G → G.get H1.n = some (.map (mE TK es) cl) → G.get H.n = some (.row [.bool true, .bool true, .bool true, .bool false] 80 false) →
      (∀ G', Ext H G' → G'.get H1.n = some (.map (mE TK (putM es x v cl)) (clockM es x cl)) → G'.get H.n = some (.row [.bool true, .bool true, .bool true, .bool false] 80 false) → Ev (K G') Q) → Ev (onH (gMapUpdate Tryd.prog 82 (.map (some H1.n)) (.int .u8 x) v G) K) Q := by
    intro G es cl x v K Q hE hg hg2 hK
    have hp := map_put (T := TK) hg x v
    have hp : gMapUpdate Tryd.prog 82 (.map (some H1.n)) (.int .u8 x) v G = some (G.set H1.n (.map (mE TK (putM es x v cl)) (clockM es x cl))) := hp
    rw [hp, onH_s]
    have hlt := GH.get_lt hg
    exact hK _ (hE.set hn hlt _) (GH.get_set_same hg) ((GH.get_set_other (by omega) hlt).trans hg2)
  have g0 : (H1.push (.map [] 0)).get H1.n = some (.map (mE TK []) 0) := GH.get_push_new
  have g2 : (H1.push (.map [] 0)).get H.n = some (.row [.bool true, .bool true, .bool true, .bool false] 80 false) := (GH.get_push_old (by omega)).trans f3
  have lw : ∀ G : GH, G.get H.n = some (.row [.bool true, .bool true, .bool true, .bool false] 80 false) → gLoad Tryd.prog 80 (.pointer (some ⟨H.n, 0, none⟩)) G = some (uV true true true false) := fun G hG => (PtC.of hG).loadA ld80
  refine key _ [] 0 1 _ _ _ hE0 g0 g2 fun G1 e1 m1 w1 => ?_
  refine key _ _ _ 2 _ _ _ e1 m1 w1 fun G2 e2 m2 w2 => ?_
  refine key _ _ _ 3 _ _ _ e2 m2 w2 fun G3 e3 m3 w3 => ?_
  rw [lw G3 w3, onV_n]
  refine key _ _ _ 4 _ _ _ e3 m3 w3 fun G4 e4 m4 w4 => ?_
  rw [lw G4 w4, onV_n]
  refine key _ _ _ 5 _ _ _ e4 m4 w4 fun G5 e5 m5 w5 => ?_
  rw [lw G5 w5, onV_n]
  refine key _ _ _ 6 _ _ _ e5 m5 w5 fun G6 e6 m6 w6 => ?_
  refine key _ _ _ 7 _ _ _ e6 m6 w6 fun G7 e7 m7 w7 => ?_
  refine key _ _ _ 8 _ _ _ e7 m7 w7 fun G8 e8 m8 w8 => ?_
  exact Ev.mk ⟨e8, H1.n, rfl, m8⟩
theorem needle_ok {k : Nat} {b a : Int} {H : GH} (hb : b ≤ 1) (ha : 1 ≤ a ∧ a ≤ 40) : Ev (C (k + 1) (.func (.func 34) #[] #[]) [.agg #[.int .u8 b, .int .i64 a]] H) fun r => Ext H r.2 ∧ r.1 = .int .i64 0 := by
  rw [C_func T34, f34_eq]
  unfold f34_sh f34_r1
  have hcl : (Value.cells (.agg #[.int .u8 b, .int .i64 a])).toList = [.int .u8 b, .int .i64 a] := rfl
  rw [hcl]
  have hE := Ext.push H (.row [.int .u8 b, .int .i64 a] 46 false)
  have g : (H.push (.row [.int .u8 b, .int .i64 a] 46 false)).get H.n = some (.row [.int .u8 b, .int .i64 a] 46 false) := GH.get_push_new
  revert hE g
  generalize H.push (.row [.int .u8 b, .int .i64 a] 46 false) = G
  intro hE g
  have q0 : oFieldAddr Tryd.prog 46 (.pointer (some ⟨H.n, 0, none⟩)) 0 = some (.pointer (some ⟨H.n, 0, none⟩)) := by kernel_rfl
  have q1 : oFieldAddr Tryd.prog 46 (.pointer (some ⟨H.n, 0, none⟩)) 1 = some (.pointer (some ⟨H.n, 1, none⟩)) := by kernel_rfl
  have l0 : gLoad Tryd.prog 44 (.pointer (some ⟨H.n, 0, none⟩)) G = some (.int .u8 b) := ldc g ld44 rfl
  have l1 : gLoad Tryd.prog 3 (.pointer (some ⟨H.n, 1, none⟩)) G = some (.int .i64 a) := ldc g ld3 rfl
  simp only [q0, l0, onV_n, bin_gtr, f34_g1_4, asB_b, onBool_d]
  rw [if_neg (by omega)]
  simp only [q1, l1, onV_n, bin_lss, f34_g1_9, asB_b, onBool_d]
  rw [if_neg (by omega)]
  simp only [q1, l1, onV_n, bin_gtr, asB_b, onBool_d]
  rw [if_neg (by omega)]
  exact Ev.mk ⟨hE, rfl⟩
/-- What the operation's kind uses, and that the operation fits. -/
structure Fl (o : OpD) (d n y r : Bool) : Prop where
  get : getM esU o.kd = some (uV d n y r)
  mem : o.kd ∈ mkeys esU
  dr : 0 ≤ o.dr ∧ o.dr ≤ 1 ∧ (d = false → o.dr = 0)
  nd : (n = false → o.bd = 0 ∧ o.at' = 0) ∧ (n = true → o.bd ≤ 1 ∧ 1 ≤ o.at' ∧ o.at' ≤ 40)
  yn : (y = false → o.yn = 0) ∧ (y = true → 1 ≤ o.yn ∧ o.yn ≤ 6)
  rk : (r = false → o.rk = 0) ∧ -4 ≤ o.rk ∧ o.rk ≤ 4
theorem OpOk.fl {o : OpD} (h : OpOk o) : ∃ d n y r, Fl o d n y r := by
  obtain ⟨kd, dr, bd, at', yn, rk⟩ := o
  rcases h with ⟨h1, h2, h3, h4, h5, h6⟩ | ⟨h1, h2, h3, h4, h5, h6⟩ | ⟨h1, h2, h3, h4, h5, h6⟩ | ⟨h1, h2, h3, h4, h5, h6⟩ | ⟨h1, h2, h3, h4, h5, h6⟩
  · simp only at h1 h2 h3 h4 h5 h6
    subst h1
    exact ⟨true, false, true, false, ⟨rfl, (show (1 : Int) ∈ mkeys esU by decide), ⟨h2.1, h2.2, nofun⟩, ⟨fun _ => ⟨h3, h4⟩, nofun⟩, ⟨nofun, fun _ => h5⟩, ⟨fun _ => h6, by simp only; omega, by simp only; omega⟩⟩⟩
  · simp only at h1 h2 h3 h4 h5 h6
    subst h1
    exact ⟨false, false, true, false, ⟨rfl, (show (2 : Int) ∈ mkeys esU by decide), ⟨by simp only; omega, by simp only; omega, fun _ => h2⟩, ⟨fun _ => ⟨h3, h4⟩, nofun⟩, ⟨nofun, fun _ => h5⟩, ⟨fun _ => h6, by simp only; omega, by simp only; omega⟩⟩⟩
  · simp only at h1 h2 h3 h4 h5 h6
    subst h1
    exact ⟨false, false, false, true, ⟨rfl, (show (3 : Int) ∈ mkeys esU by decide), ⟨by simp only; omega, by simp only; omega, fun _ => h2⟩, ⟨fun _ => ⟨h3, h4⟩, nofun⟩, ⟨fun _ => h5, nofun⟩, ⟨nofun, h6.1, h6.2⟩⟩⟩
  · simp only at h1 h2 h3 h4 h5 h6
    have hk : kd = 4 ∨ kd = 5 ∨ kd = 6 := by omega
    refine ⟨true, true, true, false, ⟨?_, ?_, ⟨h2.1, h2.2, nofun⟩, ⟨nofun, fun _ => ⟨h3.2, h4⟩⟩, ⟨nofun, fun _ => h5⟩, ⟨fun _ => h6, by simp only; omega, by simp only; omega⟩⟩⟩
    · rcases hk with rfl | rfl | rfl <;> rfl
    · rcases hk with rfl | rfl | rfl
      · exact (show (4 : Int) ∈ mkeys esU by decide)
      · exact (show (5 : Int) ∈ mkeys esU by decide)
      · exact (show (6 : Int) ∈ mkeys esU by decide)
  · simp only at h1 h2 h3 h4 h5 h6
    refine ⟨false, true, false, false, ⟨?_, ?_, ⟨by simp only; omega, by simp only; omega, fun _ => h2⟩, ⟨nofun, fun _ => ⟨h3.2, h4⟩⟩, ⟨fun _ => h5, nofun⟩, ⟨fun _ => h6, by simp only; omega, by simp only; omega⟩⟩⟩
    · rcases h1 with rfl | rfl <;> rfl
    · rcases h1 with rfl | rfl
      · exact (show (7 : Int) ∈ mkeys esU by decide)
      · exact (show (8 : Int) ∈ mkeys esU by decide)
theorem fa80_0 {b : Nat} : oFieldAddr Tryd.prog 80 (.pointer (some ⟨b, 0, none⟩)) 0 = some (.pointer (some ⟨b, 0, none⟩)) := by kernel_rfl
theorem fa80_1 {b : Nat} : oFieldAddr Tryd.prog 80 (.pointer (some ⟨b, 0, none⟩)) 1 = some (.pointer (some ⟨b, 1, none⟩)) := by kernel_rfl
theorem fa80_2 {b : Nat} : oFieldAddr Tryd.prog 80 (.pointer (some ⟨b, 0, none⟩)) 2 = some (.pointer (some ⟨b, 2, none⟩)) := by kernel_rfl
theorem fa80_3 {b : Nat} : oFieldAddr Tryd.prog 80 (.pointer (some ⟨b, 0, none⟩)) 3 = some (.pointer (some ⟨b, 3, none⟩)) := by kernel_rfl
theorem neq48 : (oBin Tryd.prog .neq 48 (.agg #[(.int .u8 0), (.int .u8 0), (.int .u8 0), (.int .i64 0), (.int .u8 0), (.int .i64 0)]) (.agg #[(.int .u8 0), (.int .u8 0), (.int .u8 0), (.int .i64 0), (.int .u8 0), (.int .i64 0)])).filter closed = some (.bool false) := by kernel_rfl
section
variable {k : Nat} {H0 : GH} {b1 b3 b5 : Nat} {o : OpD} {d n y r : Bool}
def restC (d b a y : Int) : List Value := [.int .u8 0, .int .u8 d, .int .u8 b, .int .i64 a, .int .u8 y, .int .i64 0]
def urow (d n y r : Bool) : List Value := [.bool d, .bool n, .bool y, .bool r]
structure CkI (H0 H : GH) (b1 b3 b5 : Nat) (o : OpD) (d n y r : Bool) (rd rb ra ry : Int) : Prop where
  e : Ext H0 H
  g1 : H.get b1 = some (.row (opC o) 48 false)
  g3 : H.get b3 = some (.row (urow d n y r) 80 false)
  g5 : H.get b5 = some (.row (restC rd rb ra ry) 48 false)
theorem CkI.set {H : GH} {rd rb ra ry rd' rb' ra' ry' : Int} (h : CkI H0 H b1 b3 b5 o d n y r rd rb ra ry) (h15 : b5 ≠ b1) (h35 : b5 ≠ b3) (hb : H0.n ≤ b5) : CkI H0 (H.set b5 (.row (restC rd' rb' ra' ry') 48 false)) b1 b3 b5 o d n y r rd' rb' ra' ry' :=
  have hlt := GH.get_lt h.g5
  ⟨h.e.set hb hlt _, (GH.get_set_other h15 hlt).trans h.g1, (GH.get_set_other h35 hlt).trans h.g3, GH.get_set_same h.g5⟩
theorem ch_13 {H : GH} (hf : Fl o d n y r) (h : CkI H0 H b1 b3 b5 o d n y r 0 0 0 0) : Ev (f25_r13 (C k) k (.pointer (some ⟨b1, 0, none⟩)) (.pointer (some ⟨b3, 0, none⟩)) (.bool true) (.pointer (some ⟨b5, 0, none⟩)) H) fun r => Ext H0 r.2 ∧ r.1 = .int .i64 0 := by
  unfold f25_r13 f25_g13_3 f25_g13_8 f25_g13_12 f25_r15 f25_g15_4
  have l5 : gLoad Tryd.prog 48 (.pointer (some ⟨b5, 0, none⟩)) H = some (.agg #[(.int .u8 0), (.int .u8 0), (.int .u8 0), (.int .i64 0), (.int .u8 0), (.int .i64 0)]) := (PtC.of h.g5).loadA ld48
  have l3 : gLoad Tryd.prog 4 (.pointer (some ⟨b3, 3, none⟩)) H = some (.bool r) := ldc h.g3 ld4 rfl
  have l1 : gLoad Tryd.prog 3 (.pointer (some ⟨b1, 5, none⟩)) H = some (.int .i64 o.rk) := ldc h.g1 ld3 rfl
  have hend : Ev (onV (oFieldAddr Tryd.prog 48 (.pointer (some ⟨b1, 0, none⟩)) 4) fun v1 => onV (gLoad Tryd.prog 3 v1 H) fun v2 => onV ((oBin Tryd.prog .lss 3 v2 (.int .i64 (-4))).filter closed) fun v3 => onBool (asB v3) (some [((.int .i64 11), H)])
      (onV (oFieldAddr Tryd.prog 48 (.pointer (some ⟨b1, 0, none⟩)) 4) fun v1 => onV (gLoad Tryd.prog 3 v1 H) fun v2 => onV ((oBin Tryd.prog .gtr 3 v2 (.int .i64 4)).filter closed) fun v3 => onBool (asB v3) (some [((.int .i64 11), H)]) (some [((.int .i64 0), H)]))) fun (r : Value × GH) => Ext H0 r.2 ∧ r.1 = .int .i64 0 := by
    simp only [fa48_4, l1, onV_n, bin_lss, bin_gtr, asB_b, onBool_d]
    rw [if_neg (by have := hf.rk; omega), if_neg (by have := hf.rk; omega)]
    exact Ev.mk ⟨h.e, rfl⟩
  simp only [not_b, onV_n, asB_b, onBool_i, Bool.not_true, Bool.false_eq_true, if_false, l5, neq48, fa80_3, l3]
  cases r with
  | true => simp only [Bool.not_true, Bool.false_eq_true, if_false]; exact hend
  | false =>
    simp only [Bool.not_false, if_true, fa48_4, l1, onV_n, bin_neq, asB_b, onBool_d]
    rw [if_neg (by have := hf.rk.1 rfl; omega)]
    have := hend
    simp only [fa48_4, l1, onV_n, bin_lss, bin_gtr, asB_b, onBool_d] at this ⊢
    exact this
theorem ch_10 {H : GH} (hf : Fl o d n y r) (h15 : b5 ≠ b1) (h35 : b5 ≠ b3) (hb : H0.n ≤ b5) (h : CkI H0 H b1 b3 b5 o d n y r 0 0 0 o.yn) : Ev (f25_r10 (C k) k (.pointer (some ⟨b1, 0, none⟩)) (.pointer (some ⟨b3, 0, none⟩)) (.bool true) (.pointer (some ⟨b5, 0, none⟩)) H) fun r => Ext H0 r.2 ∧ r.1 = .int .i64 0 := by
  unfold f25_r10 f25_r11
  have l3 : gLoad Tryd.prog 4 (.pointer (some ⟨b3, 2, none⟩)) H = some (.bool y) := ldc h.g3 ld4 rfl
  simp only [fa80_2, l3, onV_n, asB_b, onBool_i]
  cases y with
  | false =>
    simp only [Bool.false_eq_true, if_false]
    have := hf.yn.1 rfl
    rw [this] at h
    exact ch_13 hf h
  | true =>
    simp only [if_true, f25_g11_2, f25_g11_7, asB_b, onBool_i]
    have l1 : gLoad Tryd.prog 5 (.pointer (some ⟨b1, 4, none⟩)) H = some (.int .u8 o.yn) := ldc h.g1 ld5 rfl
    have hy := hf.yn.2 rfl
    have hs := store1 (P := Tryd.prog) (t := 5) (o := 4) (v := .int .u8 0) h.g5 (gSize_ld ld5) rfl rfl (by simp [restC])
    simp only [fa48_3, l1, onV_n, bin_geq, bin_leq, asB_b, onBool_d]
    rw [if_pos hy.1, decide_eq_true hy.2]
    simp only [hs, onH_s]
    exact ch_13 hf (h.set h15 h35 hb)
theorem ch_7 {H : GH} (hf : Fl o d n y r) (h15 : b5 ≠ b1) (h35 : b5 ≠ b3) (hb : H0.n ≤ b5) (h : CkI H0 H b1 b3 b5 o d n y r 0 o.bd o.at' o.yn) : Ev (f25_r7 (C (k + 1)) (k + 1) (.pointer (some ⟨b1, 0, none⟩)) (.pointer (some ⟨b3, 0, none⟩)) (.bool true) (.pointer (some ⟨b5, 0, none⟩)) H) fun r => Ext H0 r.2 ∧ r.1 = .int .i64 0 := by
  unfold f25_r7
  have l3 : gLoad Tryd.prog 4 (.pointer (some ⟨b3, 1, none⟩)) H = some (.bool n) := ldc h.g3 ld4 rfl
  simp only [fa80_1, l3, onV_n, asB_b, onBool_i]
  cases n with
  | false =>
    simp only [Bool.false_eq_true, if_false]
    obtain ⟨e1, e2⟩ := hf.nd.1 rfl
    rw [e1, e2] at h
    exact ch_10 hf h15 h35 hb h
  | true =>
    simp only [if_true, f25_g8_2, asB_b, onBool_i]
    obtain ⟨n1, n2, n3⟩ := hf.nd.2 rfl
    have l1 : gLoad Tryd.prog 46 (.pointer (some ⟨b1, 2, none⟩)) H = some (.agg #[.int .u8 o.bd, .int .i64 o.at']) := by
      have hp : PtC H (.pointer (some ⟨b1, 2, none⟩)) [.int .u8 o.bd, .int .i64 o.at'] := ⟨b1, 2, opC o, 48, false, rfl, h.g1, by simp [opC], rfl⟩
      exact hp.loadA ld46
    simp only [fa48_2, l1, onV_n]
    refine Ev.call0 (needle_ok (k := k) n1 ⟨n2, n3⟩) fun u H2 hu => ?_
    obtain ⟨hE2, hu⟩ := hu
    have hE2 : Ext H H2 := hE2
    have hu : u = .int .i64 0 := hu
    subst hu
    have h2 : CkI H0 H2 b1 b3 b5 o d true y r 0 o.bd o.at' o.yn := ⟨h.e.trans hE2, hE2.get_of h.g1, hE2.get_of h.g3, hE2.get_of h.g5⟩
    have hs := store46 (x := 0) (y := 0) (show H2.get b5 = some (.row [.int .u8 0, .int .u8 0, .int .u8 o.bd, .int .i64 o.at', .int .u8 o.yn, .int .i64 0] 48 false) from h2.g5)
    simp only [bin_eql, onV_n, decide_true, fa48_2, hs, onH_s]
    exact ch_10 hf h15 h35 hb (h2.set (rb' := 0) (ra' := 0) (rd' := 0) (ry' := o.yn) h15 h35 hb)
theorem ch_5 {H : GH} (hf : Fl o d n y r) (h15 : b5 ≠ b1) (h35 : b5 ≠ b3) (hb : H0.n ≤ b5) (h : CkI H0 H b1 b3 b5 o d n y r o.dr o.bd o.at' o.yn) : Ev (onBool (some d) (f25_r5 (C (k + 1)) (k + 1) (.pointer (some ⟨b1, 0, none⟩)) (.pointer (some ⟨b3, 0, none⟩)) (.bool true) (.pointer (some ⟨b5, 0, none⟩)) H) (f25_r7 (C (k + 1)) (k + 1) (.pointer (some ⟨b1, 0, none⟩)) (.pointer (some ⟨b3, 0, none⟩)) (.bool true) (.pointer (some ⟨b5, 0, none⟩)) H)) fun r => Ext H0 r.2 ∧ r.1 = .int .i64 0 := by
  rw [onBool_i]
  cases d with
  | false =>
    simp only [Bool.false_eq_true, if_false]
    rw [hf.dr.2.2 rfl] at h
    exact ch_7 hf h15 h35 hb h
  | true =>
    simp only [if_true]
    unfold f25_r5 f25_g5_2
    have l1 : gLoad Tryd.prog 43 (.pointer (some ⟨b1, 1, none⟩)) H = some (.int .u8 o.dr) := ldc h.g1 ld43 rfl
    have hs := store1 (P := Tryd.prog) (t := 43) (o := 1) (v := .int .u8 0) h.g5 (gSize_ld ld43) rfl rfl (by simp [restC])
    simp only [asB_b, onBool_i, if_true, fa48_1, l1, onV_n, bin_leq]
    rw [decide_eq_true hf.dr.2.1]
    simp only [hs, onH_s]
    exact ch_7 hf h15 h35 hb (h.set (rd' := 0) (rb' := o.bd) (ra' := o.at') (ry' := o.yn) h15 h35 hb)
end
theorem check_ok {k : Nat} {o : OpD} {H : GH} (ho : OpOk o) : Ev (C (k + 2) (.func (.func 25) #[] #[]) [opV o] H) fun r => Ext H r.2 ∧ r.1 = .int .i64 0 := by
  rw [C_func T25, f25_eq]
  unfold f25_sh
  obtain ⟨d, n, y, r, hf⟩ := ho.fl
  have hcl : (Value.cells (opV o)).toList = opC o := rfl
  rw [hcl]
  refine Ev.call 2 (R := fun v H' => ∃ R, v = .map (some R) ∧ H'.get R = some (.map (mE TK esU) 8)) (Sp.of (fun lo => used_ok (k := k)) fun v H' lo' h => h) fun v H2 hE2 hv => ?_
  obtain ⟨R, rfl, hR⟩ := hv
  have hE02 := (Ext.push H (.row (opC o) 48 false)).trans hE2
  have g1 := hE2.get_of (GH.get_push_new (H := H) (o := .row (opC o) 48 false))
  have l1 : gLoad Tryd.prog 42 (.pointer (some ⟨H.n, 0, none⟩)) H2 = some (.int .u8 o.kd) := ldc g1 ld42 rfl
  have hlk : gLookup Tryd.prog 82 (.map (some R)) (.int .u8 o.kd) true H2 = some (.tuple #[uV d n y r, .bool true]) := by
    have := map_look2 (T := TK) hR o.kd
    rw [hf.get, decide_eq_true hf.mem] at this
    exact this
  have x0 : oExtract (.tuple #[uV d n y r, .bool true]) 0 = some (uV d n y r) := rfl
  have x1 : oExtract (.tuple #[uV d n y r, .bool true]) 1 = some (.bool true) := rfl
  obtain ⟨H3, f1, f2, f3, f4⟩ := box (P := Tryd.prog) (t := 80) (H := H2) (v := uV d n y r) (cs := urow d n y r) (row := [(.bool false), (.bool false), (.bool false), (.bool false)]) (e := 80) (gSize_ld ld80) rfl rfl rfl
  have l8 : gLoad Tryd.prog 48 (.pointer (some ⟨H.n, 0, none⟩)) H3 = some (opV o) := (PtC.of (f2.get_of g1)).loadA ld48
  obtain ⟨H4, i1, i2, i3, i4⟩ := box (P := Tryd.prog) (t := 48) (H := H3) (v := opV o) (cs := opC o) (row := [(.int .u8 0), (.int .u8 0), (.int .u8 0), (.int .i64 0), (.int .u8 0), (.int .i64 0)]) (e := 48) (gSize_ld ld48) rfl rfl rfl
  simp only [l1, hlk, x0, x1, f1, l8, i1, onV_n, onH_s]
  unfold f25_r3
  have hn2 : H.n < H2.n := GH.get_lt g1
  have s1 := store1 (P := Tryd.prog) (t := 42) (o := 0) (v := .int .u8 0) i3 (gSize_ld ld42) rfl rfl (by simp [opC])
  have g1' := (f2.trans i2).get_of g1
  have g3' := i2.get_of f3
  have hE04 := (hE02.trans f2).trans i2
  have hlt := GH.get_lt i3
  have j1 := (GH.get_set_other (o := .row ((opC o).set 0 (.int .u8 0)) 48 false) (show H3.n ≠ H.n by omega) hlt).trans g1'
  have j3 := (GH.get_set_other (o := .row ((opC o).set 0 (.int .u8 0)) 48 false) (show H3.n ≠ H2.n by omega) hlt).trans g3'
  have j5 := GH.get_set_same (o := .row ((opC o).set 0 (.int .u8 0)) 48 false) i3
  have jE := hE04.set (b := H3.n) (by omega) hlt (.row ((opC o).set 0 (.int .u8 0)) 48 false)
  simp only [fa48_0, s1, onV_n, onH_s]
  revert j1 j3 j5 jE
  generalize H4.set H3.n (.row ((opC o).set 0 (.int .u8 0)) 48 false) = G
  intro j1 j3 j5 jE
  have s2 := store1 (P := Tryd.prog) (t := 3) (o := 5) (v := .int .i64 0) j5 (gSize_ld ld3) rfl rfl (by simp [opC])
  have hlt2 := GH.get_lt j5
  have I : CkI H (G.set H3.n (.row (restC o.dr o.bd o.at' o.yn) 48 false)) H.n H2.n H3.n o d n y r o.dr o.bd o.at' o.yn :=
    ⟨jE.set (by omega) hlt2 _, (GH.get_set_other (by omega) hlt2).trans j1, (GH.get_set_other (by omega) hlt2).trans j3, GH.get_set_same j5⟩
  have s2' : gStore Tryd.prog 3 (.pointer (some ⟨H3.n, 5, none⟩)) (.int .i64 0) G = some (G.set H3.n (.row (restC o.dr o.bd o.at' o.yn) 48 false)) := s2
  have l0 : gLoad Tryd.prog 4 (.pointer (some ⟨H2.n, 0, none⟩)) (G.set H3.n (.row (restC o.dr o.bd o.at' o.yn) 48 false)) = some (.bool d) := ldc I.g3 ld4 rfl
  simp only [fa48_4, s2', fa80_0, l0, onV_n, onH_s, asB_b]
  exact ch_5 hf (by omega) (by omega) (by omega) I
theorem invalid_ok {k : Nat} {v : Value} {l : List OpD} {H : GH} (hs : SlR tyOp H v l) (ho : ∀ o ∈ l, OpOk o) (hl : l.length < k) (hl' : l.length ≤ 1000000) : Ev (C (k + 3) (.func (.func 17) #[] #[]) [v] H) fun r => Ext H r.2 ∧ r.1 = .int .i64 0 := by
  rw [C_func T17, f17_eq]
  unfold f17_sh
  simp only [hs.oLen u26, onV_n]
  have key : ∀ (r i : Nat) (G : GH), i ≤ l.length → l.length - i < r → Ext H G → Ev (f17_l2 (C (k + 2)) (k + 2) r v (.int .i64 l.length) (.int .i64 (i : Int)) G) fun r => Ext H r.2 ∧ r.1 = .int .i64 0 := by
    intro r
    induction r with
    | zero => intro i G _ h; omega
    | succ r ih =>
      intro i G hi hr hE
      show Ev (f17_l2b (C (k + 2)) (k + 2) (f17_l2 (C (k + 2)) (k + 2) r) v (.int .i64 l.length) (.int .i64 (i : Int)) G) _
      unfold f17_l2b
      simp only [bin_lss, onV_n, asB_b, onBool_d]
      by_cases hlt : i < l.length
      · rw [if_pos (by omega)]
        obtain ⟨p, e1, e2⟩ := op_at (hs.mono hE) (k := .i64) hlt
        obtain ⟨H1, f1, f2, f3, f4⟩ := box (P := Tryd.prog) (t := 48) (H := G) (v := opV l[i]) (cs := opC l[i]) (row := [(.int .u8 0), (.int .u8 0), (.int .u8 0), (.int .i64 0), (.int .u8 0), (.int .i64 0)]) (e := 48) (gSize_ld ld48) rfl rfl rfl
        simp only [e1, onV_n, op_ld e2, f1, onH_s, op_ld (PtC.of f3)]
        refine Ev.call0 (check_ok (k := k) (ho _ (List.getElem_mem hlt))) fun u H2 hu => ?_
        obtain ⟨hE2, hu⟩ := hu
        have hE2 : Ext H1 H2 := hE2
        have hu : u = .int .i64 0 := hu
        subst hu
        simp only [bin_neq, onV_n, asB_b, onBool_d]
        rw [if_neg (by simp)]
        simp only [bin_add, onV_n]
        rw [wrS (by omega)]
        exact ih (i + 1) H2 (by omega) (by omega) ((hE.trans f2).trans hE2)
      · rw [if_neg (by omega)]
        exact Ev.mk ⟨hE, rfl⟩
  exact key (k + 2) 0 H (by omega) (by omega) (.refl _)
end Go.Proofs.YtdhadannleldiaaDoor
/- Tapes: pieces; decode; copies, clipped ones, equal ones; the law's blocks. -/
namespace Go.Proofs.YtdhadannleldiaaDoor
open Go.Gh
set_option linter.unusedVariables false
set_option linter.unusedSimpArgs false

/-! ### Pieces of a list -/
section
variable {α : Type}
def pcs (c : Nat) : Nat → List α → List (List α)
  | 0, _ => []
  | n + 1, l => match l with
    | [] => []
    | x :: r => (x :: r).take c :: pcs c n ((x :: r).drop c)
/-- A list, in pieces of c, the last one shorter. -/
def pieces (c : Nat) (l : List α) : List (List α) := pcs c l.length l
theorem pcs_fuel {c : Nat} (hc : 0 < c) : ∀ (n m : Nat) (l : List α), l.length ≤ n → l.length ≤ m → pcs c n l = pcs c m l
  | 0, 0, _, _, _ => rfl
  | 0, m + 1, l, h, _ => by
    have : l = [] := List.length_eq_zero_iff.1 (by omega)
    subst this; rfl
  | n + 1, 0, l, _, h => by
    have : l = [] := List.length_eq_zero_iff.1 (by omega)
    subst this; rfl
  | n + 1, m + 1, [], _, _ => rfl
  | n + 1, m + 1, x :: r, h1, h2 => by
    show (x :: r).take c :: pcs c n ((x :: r).drop c) = (x :: r).take c :: pcs c m ((x :: r).drop c)
    have hl : ((x :: r).drop c).length ≤ r.length := by rw [List.length_drop, List.length_cons]; omega
    rw [List.length_cons] at h1 h2
    rw [pcs_fuel hc n m _ (by omega) (by omega)]
theorem pieces_nil {c : Nat} : pieces c ([] : List α) = [] := rfl
theorem pieces_cons {c : Nat} (hc : 0 < c) {l : List α} (h : 0 < l.length) : pieces c l = l.take c :: pieces c (l.drop c) := by
  cases l with
  | nil => simp at h
  | cons x r =>
    show (x :: r).take c :: pcs c r.length ((x :: r).drop c) = (x :: r).take c :: pcs c ((x :: r).drop c).length ((x :: r).drop c)
    have hl : ((x :: r).drop c).length ≤ r.length := by rw [List.length_drop, List.length_cons]; omega
    rw [pcs_fuel hc r.length _ _ hl (Nat.le_refl _)]
theorem pieces_drop {c i : Nat} (hc : 0 < c) {l : List α} (h : i < l.length) : pieces c (l.drop i) = (l.drop i).take c :: pieces c (l.drop (i + c)) := by
  rw [pieces_cons hc (by rw [List.length_drop]; omega), List.drop_drop]
theorem pieces_end {c i : Nat} {l : List α} (h : l.length ≤ i) : pieces c (l.drop i) = [] := by
  rw [List.drop_eq_nil_of_le h]; rfl
theorem pieces_mem {c : Nat} (hc : 0 < c) : ∀ (n : Nat) (l : List α), l.length ≤ n → ∀ p ∈ pieces c l, p.length ≤ c ∧ (∀ x ∈ p, x ∈ l) ∧ 0 < p.length
  | 0, l, h => by
    have : l = [] := List.length_eq_zero_iff.1 (by omega)
    subst this
    intro p hp; cases hp
  | n + 1, l, h => by
    rcases Nat.eq_zero_or_pos l.length with h0 | h0
    · have : l = [] := List.length_eq_zero_iff.1 h0
      subst this
      intro p hp; cases hp
    · rw [pieces_cons hc h0]
      intro p hp
      rcases List.mem_cons.1 hp with rfl | hp
      · refine ⟨by rw [List.length_take]; omega, fun x hx => List.mem_of_mem_take hx, by rw [List.length_take]; omega⟩
      · have := pieces_mem hc n (l.drop c) (by rw [List.length_drop]; omega) p hp
        exact ⟨this.1, fun x hx => List.mem_of_mem_drop (this.2.1 x hx), this.2.2⟩
end
theorem pieces3 : ∀ l : List OpD, pieces 3 (l.flatMap opB) = l.map opB
  | [] => rfl
  | o :: l => by
    rw [pieces_cons (by decide) (by rw [List.flatMap_cons, List.length_append]; simp [opB]; omega)]
    have e1 : ((o :: l).flatMap opB).take 3 = opB o := by rw [List.flatMap_cons]; exact List.take_left' rfl
    have e2 : ((o :: l).flatMap opB).drop 3 = l.flatMap opB := by rw [List.flatMap_cons]; exact List.drop_left' rfl
    rw [e1, e2, pieces3 l]
    rfl

/-! ### decode -/
theorem rem16 {a : Int} : (oBin Tryd.prog .rem 5 (.int .u8 a) (.int .u8 16)).filter closed = some (.int .u8 (a.tmod 16)) := by kernel_rfl
theorem and16' (a : Int) : (oBin Tryd.prog .and 5 (.int .u8 a) (.int .u8 16)).filter closed = some (.int .u8 (IntKind.wrap .u8 (((BitVec.ofInt 8 a) &&& (BitVec.ofInt 8 16)).toNat : Nat))) := by kernel_rfl
theorem and32' (a : Int) : (oBin Tryd.prog .and 5 (.int .u8 a) (.int .u8 32)).filter closed = some (.int .u8 (IntKind.wrap .u8 (((BitVec.ofInt 8 a) &&& (BitVec.ofInt 8 32)).toNat : Nat))) := by kernel_rfl
theorem bits01 : ∀ a, a < 9 → ∀ b, b < 2 → ∀ c, c < 2 → (((BitVec.ofNat 8 (a + 16 * b + 32 * c)) &&& (16#8)).toNat = 16 * b ∧ ((BitVec.ofNat 8 (a + 16 * b + 32 * c)) &&& (32#8)).toNat = 32 * c) := by decide
theorem build48_03 (a c : Int) : oBuild Tryd.prog 48 [(0, .int .u8 a), (3, .int .u8 c)] = some (opV ⟨a, 0, 0, 0, c, 0⟩) := by kernel_rfl
theorem bt_at {H : GH} {v : Value} {xs : List Nat} (h : SlR tyB H v xs) {k : IntKind} {i : Nat} (hi : i < xs.length) : ∃ p, oIndexAddr Tryd.prog 24 v (.int k i) = some p ∧ PtC H p [bv8 xs[i]] := by
  obtain ⟨p, cs, h1, h2, rfl⟩ := h.at u24 (elemOk_size el5) (k := k) hi
  exact ⟨p, h1, h2⟩
theorem decode_ok {k : Nat} {v : Value} {o : OpD} {H : GH} (ho : OpOk o) (hs : SlR tyB H v (opB o)) : Ev (C (k + 1) (.func (.func 32) #[] #[]) [v] H) fun r => Ext H r.2 ∧ r.1 = opV o := by
  rw [C_func T32, f32_eq]
  unfold f32_sh
  obtain ⟨kd, dr, bd, at', yn, rk⟩ := o
  obtain ⟨h1, h2, h3, h4, h5, h6⟩ := ho.rng
  simp only at h1 h2 h3 h4 h5 h6
  obtain ⟨a, rfl⟩ := Int.eq_ofNat_of_zero_le (show 0 ≤ kd by omega)
  obtain ⟨b, rfl⟩ := Int.eq_ofNat_of_zero_le (show 0 ≤ dr by omega)
  obtain ⟨c, rfl⟩ := Int.eq_ofNat_of_zero_le (show 0 ≤ bd by omega)
  obtain ⟨e, rfl⟩ := Int.eq_ofNat_of_zero_le (show 0 ≤ at' by omega)
  obtain ⟨b16, b32⟩ := bits01 a (by omega) b (by omega) c (by omega)
  have hn1 : (GH.push H (.row [(.int .u8 0), (.int .u8 0), (.int .u8 0), (.int .i64 0), (.int .u8 0), (.int .i64 0)] 48 false)).n = H.n + 1 := rfl
  rw [hn1]
  have hE1 := Ext.push H (.row [(.int .u8 0), (.int .u8 0), (.int .u8 0), (.int .i64 0), (.int .u8 0), (.int .i64 0)] 48 false)
  have g2 := GH.get_push_new (H := H) (o := .row [(.int .u8 0), (.int .u8 0), (.int .u8 0), (.int .i64 0), (.int .u8 0), (.int .i64 0)] 48 false)
  have hnn : (GH.push H (.row [(.int .u8 0), (.int .u8 0), (.int .u8 0), (.int .i64 0), (.int .u8 0), (.int .i64 0)] 48 false)).n = H.n + 1 := rfl
  revert hE1 g2 hnn
  generalize GH.push H (.row [(.int .u8 0), (.int .u8 0), (.int .u8 0), (.int .i64 0), (.int .u8 0), (.int .i64 0)] 48 false) = H1
  intro hE1 g2 hnn
  -- the three bytes
  have hz : ∃ z : Nat, (if (a : Int) = 3 then rk + 16 else yn) = (z : Int) := Int.eq_ofNat_of_zero_le (by split <;> omega)
  obtain ⟨z, hz⟩ := hz
  have hob : opB ⟨a, b, c, e, yn, rk⟩ = [a + 16 * b + 32 * c, e, z] := by
    unfold opB
    simp only
    rw [hz]
    simp only [Int.toNat_natCast]
    congr 1
  rw [hob] at hs
  obtain ⟨p0, i0, q0⟩ := bt_at hs (k := .i64) (i := 0) (by simp)
  obtain ⟨p1, i1, q1⟩ := bt_at hs (k := .i64) (i := 1) (by simp)
  obtain ⟨p2, i2, q2⟩ := bt_at hs (k := .i64) (i := 2) (by simp)
  have i0 : oIndexAddr Tryd.prog 24 v (.int .i64 0) = some p0 := i0
  have i1 : oIndexAddr Tryd.prog 24 v (.int .i64 1) = some p1 := i1
  have i2 : oIndexAddr Tryd.prog 24 v (.int .i64 2) = some p2 := i2
  have q0 : PtC H p0 [bv8 (a + 16 * b + 32 * c)] := q0
  have q1 : PtC H p1 [bv8 e] := q1
  have q2 : PtC H p2 [bv8 z] := q2
  have hz256 : z < 256 := by have : (z : Int) < 256 := by rw [← hz]; split <;> omega
                             omega
  have L0 : ∀ G, Ext H G → gLoad Tryd.prog 5 p0 G = some (bv8 (a + 16 * b + 32 * c)) := fun G hG => (q0.mono hG).load1 ld5
  have L1 : ∀ G, Ext H G → gLoad Tryd.prog 5 p1 G = some (bv8 e) := fun G hG => (q1.mono hG).load1 ld5
  have L2 : ∀ G, Ext H G → gLoad Tryd.prog 5 p2 G = some (bv8 z) := fun G hG => (q2.mono hG).load1 ld5
  have em : ((a + 16 * b + 32 * c : Nat) : Int).tmod 16 = (a : Int) := by rw [Int.tmod_eq_emod_of_nonneg (by omega)]; omega
  obtain ⟨H2, f1, f2, f3, f4⟩ := box (P := Tryd.prog) (t := 48) (H := H1) (v := opV ⟨a, 0, 0, 0, z, 0⟩) (cs := opC ⟨a, 0, 0, 0, z, 0⟩) (row := [(.int .u8 0), (.int .u8 0), (.int .u8 0), (.int .i64 0), (.int .u8 0), (.int .i64 0)]) (e := 48) (gSize_ld ld48) rfl rfl rfl
  rw [hnn] at f1 f3
  simp only [i0, L0 H1 hE1, i2, L2 H1 hE1, bv8, onV_n, rem16, em, build48_03, f1, onH_s]
  have hE2 := hE1.trans f2
  have g2' := f2.get_of g2
  have hE2n : H.n + 1 < H2.n := GH.get_lt f3
  have w16 : IntKind.wrap .u8 ((16 * b : Nat) : Int) = ((16 * b : Nat) : Int) := Go.IntWalk.u8_in _ (by omega)
  have w32 : IntKind.wrap .u8 ((32 * c : Nat) : Int) = ((32 * c : Nat) : Int) := Go.IntWalk.u8_in _ (by omega)
  have a16 : (oBin Tryd.prog .and 5 (.int .u8 ((a + 16 * b + 32 * c : Nat) : Int)) (.int .u8 16)).filter closed = some (.int .u8 ((16 * b : Nat) : Int)) := by
    rw [and16', BitVec.ofInt_natCast, show BitVec.ofInt 8 16 = 16#8 from rfl, b16, w16]
  have a32 : (oBin Tryd.prog .and 5 (.int .u8 ((a + 16 * b + 32 * c : Nat) : Int)) (.int .u8 32)).filter closed = some (.int .u8 ((32 * c : Nat) : Int)) := by
    rw [and32', BitVec.ofInt_natCast, show BitVec.ofInt 8 32 = 32#8 from rfl, b32, w32]
  -- from the needle's place on
  have k6 : ∀ G, Ext H G → G.get H.n = some (.row [(.int .u8 0), (.int .u8 0), (.int .u8 0), (.int .i64 0), (.int .u8 0), (.int .i64 0)] 48 false) → G.get (H.n + 1) = some (.row (opC ⟨a, b, c, 0, z, 0⟩) 48 false) →
      Ev (f32_r6 (C k) k v (.pointer (some ⟨H.n, 0, none⟩)) (.pointer (some ⟨H.n + 1, 0, none⟩)) G) fun r => Ext H r.2 ∧ r.1 = opV ⟨a, b, c, e, yn, rk⟩ := by
    intro G hG hg2 hg3
    unfold f32_r6
    have w : IntKind.wrap .i64 (e : Int) = (e : Int) := Go.IntWalk.i64_in _ (by omega)
    have s1 := store1 (P := Tryd.prog) (t := 3) (o := 3) (v := .int .i64 (e : Int)) hg3 (gSize_ld ld3) rfl rfl (by simp [opC])
    have hlt := GH.get_lt hg3
    have j2 := (GH.get_set_other (o := .row ((opC ⟨a, b, c, 0, z, 0⟩).set 3 (.int .i64 (e : Int))) 48 false) (show H.n + 1 ≠ H.n by omega) hlt).trans hg2
    have j3 := GH.get_set_same (o := .row ((opC ⟨a, b, c, 0, z, 0⟩).set 3 (.int .i64 (e : Int))) 48 false) hg3
    have jE := hG.set (b := H.n + 1) (by omega) hlt (.row ((opC ⟨a, b, c, 0, z, 0⟩).set 3 (.int .i64 (e : Int))) 48 false)
    simp only [i1, L1 G hG, bv8, onV_n, conv5_3, w, fa48_2, fa46_1, s1, onH_s]
    revert j2 j3 jE
    generalize G.set (H.n + 1) (.row ((opC ⟨a, b, c, 0, z, 0⟩).set 3 (.int .i64 (e : Int))) 48 false) = G1
    intro j2 j3 jE
    have lk : gLoad Tryd.prog 42 (.pointer (some ⟨H.n + 1, 0, none⟩)) G1 = some (.int .u8 (a : Int)) := ldc j3 ld42 rfl
    simp only [fa48_0, lk, onV_n, bin_eql, asB_b, onBool_d]
    by_cases c3 : (a : Int) = 3
    · rw [if_pos c3]
      rw [if_pos c3] at hz
      have hyn : yn = 0 := by
        have := ho
        unfold OpOk at this
        simp only at this
        omega
      unfold f32_r8
      have w1 : IntKind.wrap .i64 ((z : Nat) : Int) = (z : Int) := Go.IntWalk.i64_in _ (by omega)
      have w2 : IntKind.wrap .i64 ((z : Int) - 16) = rk := by rw [Go.IntWalk.i64_in _ (by omega)]; omega
      have s2 := store1 (P := Tryd.prog) (t := 3) (o := 5) (v := .int .i64 rk) j3 (gSize_ld ld3) rfl rfl (by simp [opC])
      have hlt2 := GH.get_lt j3
      have m2 := (GH.get_set_other (o := .row (((opC ⟨a, b, c, 0, z, 0⟩).set 3 (.int .i64 (e : Int))).set 5 (.int .i64 rk)) 48 false) (show H.n + 1 ≠ H.n by omega) hlt2).trans j2
      have m3 := GH.get_set_same (o := .row (((opC ⟨a, b, c, 0, z, 0⟩).set 3 (.int .i64 (e : Int))).set 5 (.int .i64 rk)) 48 false) j3
      have mE := jE.set (b := H.n + 1) (by omega) hlt2 (.row (((opC ⟨a, b, c, 0, z, 0⟩).set 3 (.int .i64 (e : Int))).set 5 (.int .i64 rk)) 48 false)
      simp only [i2, L2 G1 jE, bv8, onV_n, conv5_3, w1, bin_sub, w2, fa48_4, s2, onH_s]
      revert m2 m3 mE
      generalize G1.set (H.n + 1) (.row (((opC ⟨a, b, c, 0, z, 0⟩).set 3 (.int .i64 (e : Int))).set 5 (.int .i64 rk)) 48 false) = G2
      intro m2 m3 mE
      have s3 := store1 (P := Tryd.prog) (t := 5) (o := 4) (v := .int .u8 0) m3 (gSize_ld ld5) rfl rfl (by simp [opC])
      have hlt3 := GH.get_lt m3
      simp only [fa48_3, s3, onV_n, onH_s]
      refine of_14 (c := C k) (k := k) (o := ⟨a, b, c, e, yn, rk⟩) (by omega) (mE.set (by omega) hlt3 _) ((GH.get_set_other (by omega) hlt3).trans m2) rfl ?_
      rw [hyn]
      exact GH.get_set_same m3
    · rw [if_neg c3]
      rw [if_neg c3] at hz
      have hrk : rk = 0 := by
        have := ho
        unfold OpOk at this
        simp only at this
        omega
      refine of_14 (c := C k) (k := k) (o := ⟨a, b, c, e, yn, rk⟩) (by omega) jE j2 rfl ?_
      rw [hrk, hz]
      exact j3
  have k4 : ∀ G, Ext H G → G.get H.n = some (.row [(.int .u8 0), (.int .u8 0), (.int .u8 0), (.int .i64 0), (.int .u8 0), (.int .i64 0)] 48 false) → G.get (H.n + 1) = some (.row (opC ⟨a, b, 0, 0, z, 0⟩) 48 false) →
      Ev (f32_r4 (C k) k v (.pointer (some ⟨H.n, 0, none⟩)) (.pointer (some ⟨H.n + 1, 0, none⟩)) G) fun r => Ext H r.2 ∧ r.1 = opV ⟨a, b, c, e, yn, rk⟩ := by
    intro G hG hg2 hg3
    unfold f32_r4
    simp only [i0, L0 G hG, bv8, onV_n, a32, bin_neq, asB_b, onBool_d]
    by_cases hc : c = 0
    · rw [if_neg (by omega)]
      subst hc
      exact k6 G hG hg2 hg3
    · rw [if_pos (by omega)]
      have hc1 : c = 1 := by omega
      subst hc1
      have s1 := store1 (P := Tryd.prog) (t := 44) (o := 2) (v := .int .u8 1) hg3 (gSize_ld ld44) rfl rfl (by simp [opC])
      have hlt := GH.get_lt hg3
      simp only [fa48_2, fa46_0, s1, onV_n, onH_s]
      exact k6 _ (hG.set (by omega) hlt _) ((GH.get_set_other (by omega) hlt).trans hg2) (GH.get_set_same hg3)
  unfold f32_r2
  simp only [i0, L0 H2 hE2, bv8, onV_n, a16, bin_neq, asB_b, onBool_d]
  by_cases hb : b = 0
  · rw [if_neg (by omega)]
    subst hb
    exact k4 H2 hE2 g2' f3
  · rw [if_pos (by omega)]
    have hb1 : b = 1 := by omega
    subst hb1
    have s1 := store1 (P := Tryd.prog) (t := 43) (o := 1) (v := .int .u8 1) f3 (gSize_ld ld43) rfl rfl (by simp [opC])
    have hlt := GH.get_lt f3
    simp only [fa48_1, s1, onV_n, onH_s]
    exact k4 _ (hE2.set (by omega) hlt _) ((GH.get_set_other (by omega) hlt).trans g2') (GH.get_set_same f3)

/-! ### Copies -/
theorem build24_0 {H : GH} : gBuildSlice Tryd.prog 24 0 [] H = some (.slice (some ⟨H.n, 0, none⟩) 0 0, H.push (.row [] 5 false)) := by kernel_rfl
theorem clone_ok {k : Nat} {v : Value} {xs : List Nat} {H : GH} (hs : SlR tyB H v xs) (hn : xs.length ≤ 1000000) : Ev (C (k + 1) (.func (.func 18) #[] #[]) [v] H) fun r => Ext H r.2 ∧ Cl tyB 5 H r.2 r.1 xs := by
  rw [C_func T18, f18_eq]
  unfold f18_sh
  rcases hs with ⟨rfl, rfl⟩ | ⟨b, o, c, row, e, ro, cs, rfl, h2⟩
  · simp only [nilEq u24, onV_s, asB_b, onBool_i, Option.isNone_none, if_true]
    exact Ev.mk ⟨.refl _, .inl ⟨rfl, rfl⟩⟩
  · have hs : SlR tyB H (.slice (some ⟨b, o, none⟩) xs.length c) xs := .inr ⟨b, o, c, row, e, ro, cs, rfl, h2⟩
    simp only [nilEq u24, onV_s, asB_b, onBool_i, Option.isNone_some, Bool.false_eq_true, if_false, build24_0, onVH_s]
    obtain ⟨v', H', g1, g2, g3⟩ := app_clone (P := Tryd.prog) hs u24 u24 el5 (by omega)
    simp only [g1, onVH_s]
    exact Ev.mk ⟨g2, g3⟩
theorem clip_ok {k : Nat} {v : Value} {xs : List Nat} {H H0 : GH} (hs : Cl tyB 5 H0 H v xs) (hn : xs.length ≤ 1000000) : Ev (C (k + 1) (.func (.func 21) #[] #[]) [v] H) fun r => r.2 = H ∧ Cl tyB 5 H0 H r.1 xs := by
  rw [C_func T21, f21_eq]
  unfold f21_sh
  obtain ⟨v', h1, h2⟩ := hs.clip (P := Tryd.prog) (t := 24) u24 (elemOk_size el5) (by omega) (k := .i64) (k' := .i64)
  simp only [hs.slr.oLen u24, onV_s, h1]
  exact Ev.mk ⟨rfl, h2⟩
theorem clipOp_ok {k : Nat} {v : Value} {xs : List OpD} {H : GH} (hs : Sc tyOp 48 H v xs) (hn : xs.length ≤ 1000000) : Ev (C (k + 1) (.func (.func 24) #[] #[]) [v] H) fun r => r.2 = H ∧ Sc tyOp 48 H r.1 xs ∧ oCap Tryd.prog 26 r.1 = some (.int .i64 xs.length) := by
  rw [C_func T24, f24_eq]
  unfold f24_sh
  have hlo : xs.length < loose := by unfold loose; omega
  rcases hs with ⟨rfl, rfl⟩ | ⟨b, o, c, row, ro, cs, rfl, h2, h3, h4, h5, h6⟩
  · have h := clip_val (P := Tryd.prog) (A := tyOp) (t := 26) (a := none) (n := 0) (c := 0) u26 (elemOk_size el48) (fun _ => ⟨rfl, rfl⟩) (fun h => absurd rfl h) (k := .i64) (k' := .i64)
    have ho : oLen Tryd.prog 26 (.slice none 0 0) = some (.int .i64 (0 : Nat)) := by unfold oLen; rw [u26]
    simp only [ho, onV_s, h]
    refine Ev.mk ⟨rfl, .inl ⟨rfl, rfl⟩, ?_⟩
    unfold oCap
    simp only [u26]
    rfl
  · have h := clip_val (P := Tryd.prog) (A := tyOp) (t := 26) (a := some ⟨b, o, none⟩) (n := xs.length) (c := c) u26 (elemOk_size el48) (fun h => by cases h) (fun _ => h6.symm) (k := .i64) (k' := .i64)
    have ho : oLen Tryd.prog 26 (.slice (some ⟨b, o, none⟩) xs.length c) = some (.int .i64 xs.length) := by unfold oLen; rw [u26]
    simp only [ho, onV_s, h]
    refine Ev.mk ⟨rfl, .inr ⟨b, o, _, row, ro, cs, rfl, h2, h3, h4, h5, .inl ⟨hlo, Nat.le_refl _⟩⟩, ?_⟩
    unfold oCap
    simp only [u26, reduceCtorEq, if_false]
    rw [if_pos hlo]
/-- Equal bytes are equal. -/
theorem equal_ok {k : Nat} {v w : Value} {xs : List Nat} {H : GH} (hv : SlR tyB H v xs) (hw : SlR tyB H w xs) (hl : xs.length < k) (hl' : xs.length ≤ 1000000) : Ev (C (k + 1) (.func (.func 29) #[] #[]) [v, w] H) fun r => r = (.bool true, H) := by
  rw [C_func T29, f29_eq]
  unfold f29_sh
  simp only [hv.oLen u24, hw.oLen u24, onV_n, bin_neq, asB_b, onBool_d]
  rw [if_neg (fun h => h rfl)]
  have key : ∀ (r i : Nat), i ≤ xs.length → xs.length - i < r → Ev (f29_l4 (C k) k r v w (.int .i64 xs.length) (.int .i64 (i : Int)) H) fun r => r = (.bool true, H) := by
    intro r
    induction r with
    | zero => intro i _ h; omega
    | succ r ih =>
      intro i hi hr
      show Ev (f29_l4b (C k) k (f29_l4 (C k) k r) v w (.int .i64 xs.length) (.int .i64 (i : Int)) H) _
      unfold f29_l4b
      simp only [bin_lss, onV_n, asB_b, onBool_d]
      by_cases hlt : i < xs.length
      · rw [if_pos (by omega)]
        obtain ⟨p, e1, e2⟩ := bt_at hv (k := .i64) hlt
        obtain ⟨q, e3, e4⟩ := bt_at hw (k := .i64) hlt
        simp only [e1, e2.load1 ld5, e3, e4.load1 ld5, bv8, onV_n, bin_neq, asB_b, onBool_d]
        rw [if_neg (fun h => h rfl)]
        simp only [bin_add, onV_n]
        rw [wrS (by omega)]
        exact ih (i + 1) (by omega) (by omega)
      · rw [if_neg (by omega)]
        exact Ev.mk rfl
  exact key k 0 (by omega) (by omega)
end Go.Proofs.YtdhadannleldiaaDoor
/- Tapes: pieces, one after the other (slices.Chunk); the law's blocks. -/
namespace Go.Proofs.YtdhadannleldiaaDoor
open Go.Gh
set_option linter.unusedVariables false
set_option linter.unusedSimpArgs false

theorem minI (a b : Int) : (oMinMax Tryd.prog false [.int .i64 a, .int .i64 b]).filter closed = some (.int .i64 (if b < a then b else a)) := by kernel_rfl
section
variable {k k' b1 b2 c : Nat} {v y : Value} {l : List OpD} {I : List (List OpD) → GH → Prop} {Q : Value × GH → Prop}
/-- What stands while the pieces are visited. -/
structure ItOp (c b1 b2 : Nat) (v : Value) (l : List OpD) (I : List (List OpD) → GH → Prop) : Prop where
  bx : ∀ D H, I D H → H.get b1 = some (.row [v] 26 false) ∧ H.get b2 = some (.row [.int .i64 (c : Int)] 3 false) ∧ Sc tyOp 48 H v l
theorem it_l1 (hc : 0 < c) (hc' : c ≤ 1000) (hl : l.length ≤ 1000000) (hI : ItOp c b1 b2 v l I)
    (hy : ∀ D p H w, D ++ [p] <+: pieces c l → I D H → Sc tyOp 48 H w p → Ev (C k y [w] H) fun r => r.1 = .bool true ∧ I (D ++ [p]) r.2)
    (hQ : ∀ u H, I (pieces c l) H → Q (u, H)) :
    ∀ (r i : Nat) (D : List (List OpD)) (H : GH), l.length - i < r → i ≤ l.length + c → D ++ pieces c (l.drop i) = pieces c l → I D H → Ev (f26_l1 (C k) k' r y (.pointer (some ⟨b1, 0, none⟩)) (.pointer (some ⟨b2, 0, none⟩)) (.int .i64 (i : Int)) H) Q := by
  intro r
  induction r with
  | zero => intro i D H h; omega
  | succ r ih =>
    intro i D H hr hi hD hID
    show Ev (f26_l1b (C k) k' (f26_l1 (C k) k' r) y (.pointer (some ⟨b1, 0, none⟩)) (.pointer (some ⟨b2, 0, none⟩)) (.int .i64 (i : Int)) H) Q
    obtain ⟨g1, g2, hs⟩ := hI.bx D H hID
    unfold f26_l1b
    have l1 : gLoad Tryd.prog 26 (.pointer (some ⟨b1, 0, none⟩)) H = some v := ldc g1 ld26 rfl
    have l2 : gLoad Tryd.prog 3 (.pointer (some ⟨b2, 0, none⟩)) H = some (.int .i64 (c : Int)) := ldc g2 ld3 rfl
    simp only [l1, l2, onV_n, hs.slr.oLen u26, bin_lss, asB_b, onBool_d]
    by_cases hlt : i < l.length
    · rw [if_pos (by omega)]
      obtain ⟨w, s1, s2⟩ := hs.from (P := Tryd.prog) (t := 26) (i := i) u26 (elemOk_size el48) (by omega) (k := .i64)
      have e0 : (if ((l.drop i).length : Int) < (c : Int) then ((l.drop i).length : Int) else (c : Int)) = (((l.drop i).take c).length : Int) := by
        rw [List.length_take]; split <;> omega
      simp only [s1, onV_n, s2.slr.oLen u26, minI, e0]
      have hn : ((l.drop i).take c).length = min c (l.length - i) := by rw [List.length_take, List.length_drop]
      unfold f26_r4
      have e1 : IntKind.wrap .i64 ((i : Int) + (((l.drop i).take c).length : Int)) = ((i + ((l.drop i).take c).length : Nat) : Int) := by rw [Go.IntWalk.i64_in _ (by omega)]; omega
      obtain ⟨w3, s3, s4⟩ := hs.max (P := Tryd.prog) (t := 26) (i := i) (m := i + ((l.drop i).take c).length) u26 (elemOk_size el48) (by omega) (by omega) (k := .i64) (k' := .i64) (k2 := .i64)
      simp only [l1, bin_add, e1, s3, onV_n]
      rw [Nat.add_sub_cancel_left, show (l.drop i).take ((l.drop i).take c).length = (l.drop i).take c by rw [List.take_eq_take_iff, List.length_take, List.length_drop]; omega] at s4
      have hp : pieces c (l.drop i) = (l.drop i).take c :: pieces c (l.drop (i + c)) := pieces_drop hc hlt
      refine Ev.call0 (hy D ((l.drop i).take c) H w3 ⟨pieces c (l.drop (i + c)), by rw [← hD, hp, List.append_assoc]; rfl⟩ hID s4) fun u H2 hu => ?_
      obtain ⟨hu1, hu2⟩ := hu
      have hu1 : u = .bool true := hu1
      have hu2 : I (D ++ [(l.drop i).take c]) H2 := hu2
      subst hu1
      obtain ⟨g1', g2', hs'⟩ := hI.bx _ H2 hu2
      have l2' : gLoad Tryd.prog 3 (.pointer (some ⟨b2, 0, none⟩)) H2 = some (.int .i64 (c : Int)) := ldc g2' ld3 rfl
      have e2 : IntKind.wrap .i64 ((i : Int) + (c : Int)) = ((i + c : Nat) : Int) := by rw [Go.IntWalk.i64_in _ (by omega)]; omega
      simp only [not_b, onV_n, asB_b, onBool_i, Bool.not_true, Bool.false_eq_true, if_false, l2', bin_add, e2]
      exact ih (i + c) _ H2 (by omega) (by omega) (by rw [← hD, hp, List.append_assoc]; rfl) hu2
    · rw [if_neg (by omega)]
      have hD' : D = pieces c l := by rw [← hD, pieces_end (by omega), List.append_nil]
      exact Ev.mk (hQ _ H (hD' ▸ hID))
/-- The pieces of a list of operations are visited. -/
theorem it_ok (hc : 0 < c) (hc' : c ≤ 1000) (hl : l.length ≤ 1000000) (hlk : l.length < k) (hI : ItOp c b1 b2 v l I)
    (hy : ∀ D p H w, D ++ [p] <+: pieces c l → I D H → Sc tyOp 48 H w p → Ev (C k y [w] H) fun r => r.1 = .bool true ∧ I (D ++ [p]) r.2) {H : GH} (h0 : I [] H) :
    Ev (C (k + 1) (.func (.func 26) #[] #[.pointer (some ⟨b1, 0, none⟩), .pointer (some ⟨b2, 0, none⟩)]) [y] H) fun r => I (pieces c l) r.2 := by
  rw [C_clos T26]
  show Ev (gFunc Tryd.prog (C k) k Tryd.f26 [y, .pointer (some ⟨b1, 0, none⟩), .pointer (some ⟨b2, 0, none⟩)] H) _
  rw [f26_eq]
  unfold f26_sh
  exact it_l1 (k := k) hc hc' hl hI hy (fun u H h => h) k 0 [] H (by omega) (by omega) (by simp) h0
theorem chunk_ok {H : GH} {n : Nat} (hn : 1 ≤ n) {a : Option Addr} {m cp : Nat} : Ev (C (k + 1) (.func (.func 19) #[] #[]) [.slice a m cp, .int .i64 (n : Int)] H) fun r => r = (.func (.func 26) #[] #[.pointer (some ⟨H.n, 0, none⟩), .pointer (some ⟨H.n + 1, 0, none⟩)], (H.push (.row [.slice a m cp] 26 false)).push (.row [.int .i64 (n : Int)] 3 false)) := by
  rw [C_func T19, f19_eq]
  unfold f19_sh
  have c1 : (Value.cells (.slice a m cp)).toList = [.slice a m cp] := rfl
  have c2 : (Value.cells (.int .i64 (n : Int))).toList = [.int .i64 (n : Int)] := rfl
  rw [c1, c2]
  have hn1 : (H.push (.row [.slice a m cp] 26 false)).n = H.n + 1 := rfl
  rw [hn1]
  have l1 : gLoad Tryd.prog 3 (.pointer (some ⟨H.n + 1, 0, none⟩)) ((H.push (.row [.slice a m cp] 26 false)).push (.row [.int .i64 (n : Int)] 3 false)) = some (.int .i64 (n : Int)) := ldc (H := (H.push (.row [.slice a m cp] 26 false)).push (.row [.int .i64 (n : Int)] 3 false)) GH.get_push_new ld3 rfl
  simp only [l1, onV_n, bin_lss, asB_b, onBool_d]
  rw [if_neg (by omega)]
  exact Ev.mk rfl
end
section
variable {k k' b1 b2 c : Nat} {v y : Value} {l : List Nat} {I : List (List Nat) → GH → Prop} {Q : Value × GH → Prop}
structure ItB (c b1 b2 : Nat) (v : Value) (l : List Nat) (I : List (List Nat) → GH → Prop) : Prop where
  bx : ∀ D H, I D H → H.get b1 = some (.row [v] 24 false) ∧ H.get b2 = some (.row [.int .i64 (c : Int)] 3 false) ∧ Sc tyB 5 H v l
theorem itB_l1 (hc : 0 < c) (hc' : c ≤ 1000) (hl : l.length ≤ 1000000) (hI : ItB c b1 b2 v l I)
    (hy : ∀ D p H w, D ++ [p] <+: pieces c l → I D H → Sc tyB 5 H w p → Ev (C k y [w] H) fun r => r.1 = .bool true ∧ I (D ++ [p]) r.2)
    (hQ : ∀ u H, I (pieces c l) H → Q (u, H)) :
    ∀ (r i : Nat) (D : List (List Nat)) (H : GH), l.length - i < r → i ≤ l.length + c → D ++ pieces c (l.drop i) = pieces c l → I D H → Ev (f35_l1 (C k) k' r y (.pointer (some ⟨b1, 0, none⟩)) (.pointer (some ⟨b2, 0, none⟩)) (.int .i64 (i : Int)) H) Q := by
  intro r
  induction r with
  | zero => intro i D H h; omega
  | succ r ih =>
    intro i D H hr hi hD hID
    show Ev (f35_l1b (C k) k' (f35_l1 (C k) k' r) y (.pointer (some ⟨b1, 0, none⟩)) (.pointer (some ⟨b2, 0, none⟩)) (.int .i64 (i : Int)) H) Q
    obtain ⟨g1, g2, hs⟩ := hI.bx D H hID
    unfold f35_l1b
    have l1 : gLoad Tryd.prog 24 (.pointer (some ⟨b1, 0, none⟩)) H = some v := ldc g1 ld24 rfl
    have l2 : gLoad Tryd.prog 3 (.pointer (some ⟨b2, 0, none⟩)) H = some (.int .i64 (c : Int)) := ldc g2 ld3 rfl
    simp only [l1, l2, onV_n, hs.slr.oLen u24, bin_lss, asB_b, onBool_d]
    by_cases hlt : i < l.length
    · rw [if_pos (by omega)]
      obtain ⟨w, s1, s2⟩ := hs.from (P := Tryd.prog) (t := 24) (i := i) u24 (elemOk_size el5) (by omega) (k := .i64)
      have e0 : (if ((l.drop i).length : Int) < (c : Int) then ((l.drop i).length : Int) else (c : Int)) = (((l.drop i).take c).length : Int) := by
        rw [List.length_take]; split <;> omega
      simp only [s1, onV_n, s2.slr.oLen u24, minI, e0]
      have hn : ((l.drop i).take c).length = min c (l.length - i) := by rw [List.length_take, List.length_drop]
      unfold f35_r4
      have e1 : IntKind.wrap .i64 ((i : Int) + (((l.drop i).take c).length : Int)) = ((i + ((l.drop i).take c).length : Nat) : Int) := by rw [Go.IntWalk.i64_in _ (by omega)]; omega
      obtain ⟨w3, s3, s4⟩ := hs.max (P := Tryd.prog) (t := 24) (i := i) (m := i + ((l.drop i).take c).length) u24 (elemOk_size el5) (by omega) (by omega) (k := .i64) (k' := .i64) (k2 := .i64)
      simp only [l1, bin_add, e1, s3, onV_n]
      rw [Nat.add_sub_cancel_left, show (l.drop i).take ((l.drop i).take c).length = (l.drop i).take c by rw [List.take_eq_take_iff, List.length_take, List.length_drop]; omega] at s4
      have hp : pieces c (l.drop i) = (l.drop i).take c :: pieces c (l.drop (i + c)) := pieces_drop hc hlt
      refine Ev.call0 (hy D ((l.drop i).take c) H w3 ⟨pieces c (l.drop (i + c)), by rw [← hD, hp, List.append_assoc]; rfl⟩ hID s4) fun u H2 hu => ?_
      obtain ⟨hu1, hu2⟩ := hu
      have hu1 : u = .bool true := hu1
      have hu2 : I (D ++ [(l.drop i).take c]) H2 := hu2
      subst hu1
      obtain ⟨g1', g2', hs'⟩ := hI.bx _ H2 hu2
      have l2' : gLoad Tryd.prog 3 (.pointer (some ⟨b2, 0, none⟩)) H2 = some (.int .i64 (c : Int)) := ldc g2' ld3 rfl
      have e2 : IntKind.wrap .i64 ((i : Int) + (c : Int)) = ((i + c : Nat) : Int) := by rw [Go.IntWalk.i64_in _ (by omega)]; omega
      simp only [not_b, onV_n, asB_b, onBool_i, Bool.not_true, Bool.false_eq_true, if_false, l2', bin_add, e2]
      exact ih (i + c) _ H2 (by omega) (by omega) (by rw [← hD, hp, List.append_assoc]; rfl) hu2
    · rw [if_neg (by omega)]
      have hD' : D = pieces c l := by rw [← hD, pieces_end (by omega), List.append_nil]
      exact Ev.mk (hQ _ H (hD' ▸ hID))
theorem itB_ok (hc : 0 < c) (hc' : c ≤ 1000) (hl : l.length ≤ 1000000) (hlk : l.length < k) (hI : ItB c b1 b2 v l I)
    (hy : ∀ D p H w, D ++ [p] <+: pieces c l → I D H → Sc tyB 5 H w p → Ev (C k y [w] H) fun r => r.1 = .bool true ∧ I (D ++ [p]) r.2) {H : GH} (h0 : I [] H) :
    Ev (C (k + 1) (.func (.func 35) #[] #[.pointer (some ⟨b1, 0, none⟩), .pointer (some ⟨b2, 0, none⟩)]) [y] H) fun r => I (pieces c l) r.2 := by
  rw [C_clos T35]
  show Ev (gFunc Tryd.prog (C k) k Tryd.f35 [y, .pointer (some ⟨b1, 0, none⟩), .pointer (some ⟨b2, 0, none⟩)] H) _
  rw [f35_eq]
  unfold f35_sh
  exact itB_l1 (k := k) hc hc' hl hI hy (fun u H h => h) k 0 [] H (by omega) (by omega) (by simp) h0
theorem chunkB_ok {H : GH} {n : Nat} (hn : 1 ≤ n) {a : Option Addr} {m cp : Nat} : Ev (C (k + 1) (.func (.func 31) #[] #[]) [.slice a m cp, .int .i64 (n : Int)] H) fun r => r = (.func (.func 35) #[] #[.pointer (some ⟨H.n, 0, none⟩), .pointer (some ⟨H.n + 1, 0, none⟩)], (H.push (.row [.slice a m cp] 24 false)).push (.row [.int .i64 (n : Int)] 3 false)) := by
  rw [C_func T31, f31_eq]
  unfold f31_sh
  have c1 : (Value.cells (.slice a m cp)).toList = [.slice a m cp] := rfl
  have c2 : (Value.cells (.int .i64 (n : Int))).toList = [.int .i64 (n : Int)] := rfl
  rw [c1, c2]
  have hn1 : (H.push (.row [.slice a m cp] 24 false)).n = H.n + 1 := rfl
  rw [hn1]
  have l1 : gLoad Tryd.prog 3 (.pointer (some ⟨H.n + 1, 0, none⟩)) ((H.push (.row [.slice a m cp] 24 false)).push (.row [.int .i64 (n : Int)] 3 false)) = some (.int .i64 (n : Int)) := ldc (H := (H.push (.row [.slice a m cp] 24 false)).push (.row [.int .i64 (n : Int)] 3 false)) GH.get_push_new ld3 rfl
  simp only [l1, onV_n, bin_lss, asB_b, onBool_d]
  rw [if_neg (by omega)]
  exact Ev.mk rfl
end

/-! ### The law's blocks -/
def tyV : Ty Value where
  sz := 1
  rep _ cs x := cs = [x] ∧ oneC x = true
  len h := by rw [h.1]; rfl
  one h := by rw [h.1]; simp [h.2]
  mono _ h := h
theorem flat_v : tyV.Flat := fun _ _ _ _ h => h
theorem own_ne {α : Type} {A : Ty α} {e e' : TypeId} {H0 H : GH} {v : Value} {xs : List α} {b : Nat} {row : List Value} {ro : Bool} (h : Own A e H0 H v xs) (hg : H.get b = some (.row row e' ro)) (hne : e' ≠ e) : blkOf v ≠ some b := by
  rcases h with ⟨rfl, _⟩ | ⟨b', cs, rfl, h2, h3, h4⟩
  · exact fun h => by cases h
  · intro h
    injection h with h
    have h : b' = b := h
    subst h
    rw [hg] at h3
    have := Option.some.inj h3
    injection this with _ h6 _
    exact hne h6
theorem clOld {α : Type} {A : Ty α} {e : TypeId} {H0 H1 H : GH} {v : Value} {xs : List α} (hn : H0.n ≤ H1.n) (h : Cl A e H1 H v xs) : Cl A e H0 H v xs := by
  rcases h with h | ⟨b, c, cs, h1, h2, h3⟩
  · exact .inl h
  · exact .inr ⟨b, c, cs, h1, Nat.le_trans hn h2, h3⟩
/-- A slice of slices of bytes. -/
def Bss (H0 H : GH) (v : Value) (bss : List (List Nat)) : Prop := ∃ vs, Own tyV 24 H0 H v vs ∧ vs.length = bss.length ∧ ∀ (i : Nat) (w : Value) (b : List Nat), vs[i]? = some w → bss[i]? = some b → Cl tyB 5 H0 H w b
theorem build31_1 {H : GH} {a : Option Addr} {n c : Nat} : gBuildSlice Tryd.prog 31 1 [(0, .slice a n c)] H = some (.slice (some ⟨H.n, 0, none⟩) 1 1, H.push (.row [.slice a n c] 24 false)) := by kernel_rfl
section
variable {k k' : Nat} {v : Value} {l : List OpD} {H0 : GH} {Q : Value × GH → Prop}
theorem lbs_l3 (hk : 1000 ≤ k) (hs : Sc tyOp 48 H0 v l) (ho : ∀ o ∈ l, OpOk o) (hl : l.length ≤ 1000)
    (hQ : ∀ w H, Ext H0 H → Bss H0 H w ((pieces 32 l).map blk) → Q (w, H)) :
    ∀ (r i : Nat) (H : GH) (w : Value) (vs : List Value) (D : List (List OpD)), l.length - i < r → i ≤ l.length + 32 → D ++ pieces 32 (l.drop i) = pieces 32 l → Ext H0 H → Own tyV 24 H0 H w vs → vs.length = D.length → (∀ (i : Nat) (w : Value) (b : List Nat), vs[i]? = some w → (D.map blk)[i]? = some b → Cl tyB 5 H0 H w b) → D.length ≤ i →
      Ev (f7_l3 (C (k + 2)) k' r v w (.int .i64 (i : Int)) H) Q := by
  intro r
  induction r with
  | zero => intro i H w vs D h; omega
  | succ r ih =>
    intro i H w vs D hr hi hD hE ho' hlen hval hDi
    show Ev (f7_l3b (C (k + 2)) k' (f7_l3 (C (k + 2)) k' r) v w (.int .i64 (i : Int)) H) Q
    unfold f7_l3b
    simp only [(hs.slr.mono hE).oLen u26, bin_lss, onV_n, asB_b, onBool_d]
    by_cases hlt : i < l.length
    · rw [if_pos (by omega)]
      have e1 : IntKind.wrap .i64 ((i : Int) + 32) = ((i + 32 : Nat) : Int) := by rw [Go.IntWalk.i64_in _ (by omega)]; omega
      have go : ∀ m : Nat, m = min (i + 32) l.length → Ev (f7_r8 (C (k + 2)) k' (f7_l3 (C (k + 2)) k' r) v w (.int .i64 (i : Int)) (.int .i64 (m : Int)) H) Q := by
        intro m hm
        unfold f7_r8
        obtain ⟨w1, s1, s2⟩ := (hs.mono hE).mid (P := Tryd.prog) (t := 26) (i := i) (m := m) u26 (elemOk_size el48) (by omega) (by omega) (k := .i64) (k' := .i64)
        have hpc : (l.drop i).take (m - i) = (l.drop i).take 32 := by
          rw [List.take_eq_take_iff, List.length_drop]; omega
        rw [hpc] at s2
        have hp : pieces 32 (l.drop i) = (l.drop i).take 32 :: pieces 32 (l.drop (i + 32)) := pieces_drop (by decide) hlt
        simp only [s1, onV_n]
        refine Ev.call0 (lawblock_ok (k := k) hk s2.slr (fun o hm => ho o (List.mem_of_mem_drop (List.mem_of_mem_take hm))) (by rw [List.length_take]; omega)) fun u H2 hu => ?_
        obtain ⟨hE2, hu⟩ := hu
        have hE2 : Ext H H2 := hE2
        have hu : Cl tyB 5 H H2 u (blk ((l.drop i).take 32)) := hu
        obtain ⟨au, cu, rfl⟩ := hu.slr.val
        simp only [build31_1, onVH_s]
        have hE3 := Ext.push H2 (.row [.slice au (blk ((l.drop i).take 32)).length cu] 24 false)
        have hE03 := (hE.trans hE2).trans hE3
        have hown : Own tyV 24 H0 (H2.push (.row [.slice au (blk ((l.drop i).take 32)).length cu] 24 false)) w vs := ho'.keep fun b hb => by
          have := (ho'.lt hb).2
          have h1 : H.n ≤ H2.n := hE2.n
          rw [GH.get_push_old (by omega)]
          rcases ho' with ⟨rfl, _⟩ | ⟨b', cs, rfl, q1, q2, q3⟩
          · cases hb
          · injection hb with hb
            have hb : b' = b := hb
            subst hb
            rw [q2]; exact hE2.get_of q2
        have hf : gFirst tyV.sz [Value.slice au (blk ((l.drop i).take 32)).length cu].length (.slice (some ⟨H2.n, 0, none⟩) 1 1) (H2.push (.row [.slice au (blk ((l.drop i).take 32)).length cu] 24 false)) = some [.slice au (blk ((l.drop i).take 32)).length cu] := by
          unfold gFirst
          simp only [GH.get_push_new]
          rfl
        obtain ⟨w', H4, a1, a2, a3, a4, a5, a6⟩ := Own.append (P := Tryd.prog) (st := 31) (xt := 31) (e := 24) hE03 hown u31 u31 el24 ⟨_, _, rfl⟩ hf (.cons (c := [.slice au (blk ((l.drop i).take 32)).length cu]) (cs := []) ⟨rfl, rfl⟩ .nil) (by rw [hlen]; simp; omega)
        have a1' : gAppend Tryd.prog 31 31 w (.slice (some ⟨H2.n, 0, none⟩) 1 1) (H2.push (.row [.slice au (blk ((l.drop i).take 32)).length cu] 24 false)) = some (w', H4) := a1
        simp only [a1', onVH_s, bin_add, e1, onV_n]
        have hkeep : ∀ q row, (H2.push (.row [.slice au (blk ((l.drop i).take 32)).length cu] 24 false)).get q = some (.row row 5 false) → H4.get q = some (.row row 5 false) := fun q row hq => (a5 q (GH.get_lt hq) (own_ne hown hq (by decide))).trans hq
        refine ih (i + 32) H4 w' (vs ++ [.slice au (blk ((l.drop i).take 32)).length cu]) (D ++ [(l.drop i).take 32]) (by omega) (by omega) (by rw [← hD, hp, List.append_assoc]; rfl) a2 a3 (by simp [hlen]) (fun j x b hx hb => ?_) (by simp; omega)
        rw [List.map_append] at hb
        rcases Nat.lt_or_ge j vs.length with hj | hj
        · rw [List.getElem?_append_left hj] at hx
          rw [List.getElem?_append_left (by rw [List.length_map]; omega)] at hb
          exact ((hval j x b hx hb).ext (hE2.trans hE3)).keepR flat_b hkeep
        · rw [List.getElem?_append_right hj] at hx
          rw [List.getElem?_append_right (by rw [List.length_map]; omega), List.length_map, ← hlen] at hb
          have hj0 : j - vs.length = 0 := by
            have := (List.getElem?_eq_some_iff.1 hx).1
            simpa using this
          rw [hj0] at hx hb
          have hx := Option.some.inj hx
          have hb := Option.some.inj hb
          subst hx; subst hb
          exact (clOld hE.n (hu.ext hE3)).keepR flat_b hkeep
      simp only [bin_add, e1, onV_n, bin_gtr, asB_b, onBool_d]
      by_cases h2 : l.length < i + 32
      · rw [if_pos (by omega)]
        exact go l.length (by omega)
      · rw [if_neg (by omega)]
        exact go (i + 32) (by omega)
    · rw [if_neg (by omega)]
      have hD' : D = pieces 32 l := by rw [← hD, pieces_end (by omega), List.append_nil]
      subst hD'
      exact Ev.mk (hQ w H hE ⟨vs, ho', by rw [hlen, List.length_map], hval⟩)
theorem lawblocks_ok {H : GH} (hk : 1000 ≤ k) (hs : Sc tyOp 48 H v l) (ho : ∀ o ∈ l, OpOk o) (hl : l.length ≤ 1000) : Ev (C (k + 3) (.func (.func 7) #[] #[]) [v] H) fun r => Ext H r.2 ∧ Bss H r.2 r.1 ((pieces 32 l).map blk) := by
  rw [C_func T7, f7_eq]
  unfold f7_sh
  exact lbs_l3 (H0 := H) hk hs ho hl (fun w H' a b => ⟨a, b⟩) (k + 2) 0 H (.slice none 0 0) [] [] (by omega) (by omega) (by simp) (.refl _) Own.nil rfl (fun i w b h => by simp at h) (by simp)
end
end Go.Proofs.YtdhadannleldiaaDoor
