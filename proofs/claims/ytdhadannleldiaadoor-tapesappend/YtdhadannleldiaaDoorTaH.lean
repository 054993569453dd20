/- Tapes: the operations of a block are read. -/
import Derived.Test.YtdhadannleldiaaDoorTaE
import Derived.Test.YtdhadannleldiaaDoorTaS5
namespace Go.Proofs.YtdhadannleldiaaDoor
open Go.Gh
set_option linter.unusedVariables false
set_option linter.unusedSimpArgs false

theorem Own.extO {α : Type} {A : Ty α} {e : TypeId} {H0 H H' : GH} {v : Value} {xs : List α} (hE : Ext H H') (h : Own A e H0 H v xs) : Own A e H0 H' v xs := h.keep fun b hb => by
  rcases h with ⟨rfl, _⟩ | ⟨b', cs, rfl, q1, q2, q3⟩
  · cases hb
  · injection hb with hb
    have hb : b' = b := hb
    subst hb
    rw [q2]; exact hE.get_of q2
theorem own_nl {α : Type} {A : Ty α} {e : TypeId} {H0 H : GH} {v : Value} {xs : List α} {b : Nat} {st : LoopState} {pe : Option Code} {tm : List Value} {ps : List Tmp} {a bd : Code} (h : Own A e H0 H v xs) (hg : H.get b = some (.loop st pe tm ps a bd)) : blkOf v ≠ some b := by
  rcases h with ⟨rfl, _⟩ | ⟨b', cs, rfl, h2, h3, h4⟩
  · exact fun h => by cases h
  · intro h
    injection h with h
    have h : b' = b := h
    subst h
    rw [hg] at h3
    cases h3
theorem build26_1 {H : GH} {o : OpD} : gBuildSlice Tryd.prog 26 1 [(0, opV o)] H = some (.slice (some ⟨H.n, 0, none⟩) 1 1, H.push (.row (opC o) 48 false)) := by kernel_rfl
noncomputable def rdA : Code := fAt Tryd.f23 [1,1,1,1,0,0,0,1,0,1,1,1,1,1,1,0,1,0,0]
noncomputable def rdB : Code := fAt Tryd.f23 [1,1,1,1,0,0,0,1,0,1,1,1,1,1,1,0,1,0,1]
/-- What stands while the operations of a block are read. -/
structure RI (H0 : GH) (L b9 bc bn : Nat) (tm : List Value) (cv : Value) (p : List OpD) (D : List (List Nat)) (H : GH) : Prop where
  e : Ext H0 H
  loop : H.get L = some (.loop .ready none tm [90] rdA rdB)
  box : ∃ w, H.get b9 = some (.row [w] 26 false) ∧ Own tyOp 48 H0 H w (p.take D.length)
  c1 : H.get bc = some (.row [cv] 24 false)
  c2 : H.get bn = some (.row [.int .i64 3] 3 false)
theorem rd_step {j L b9 bc bn : Nat} {tm : List Value} {cv : Value} {p : List OpD} {H0 : GH} (hj : 10 ≤ j) (ho : ∀ o ∈ p, OpOk o) (hp : p.length ≤ 32) (htm : tm.length = 124) (h9 : tm[9]? = some (.pointer (some ⟨b9, 0, none⟩)))
    (hb9 : H0.n ≤ b9) (hL : H0.n ≤ L) (h9L : b9 ≠ L) (h9c : b9 ≠ bc) (h9n : b9 ≠ bn) (hLc : L ≠ bc) (hLn : L ≠ bn) {D : List (List Nat)} {q : List Nat} {H : GH} {w : Value} (hpre : D ++ [q] <+: pieces 3 (p.flatMap opB)) (hI : RI H0 L b9 bc bn tm cv p D H) (hw : Sc tyB 5 H w q) :
    Ev (C (j + 3) (.func (.yield L) #[] #[]) [w] H) fun r => r.1 = .bool true ∧ RI H0 L b9 bc bn tm cv p (D ++ [q]) r.2 := by
  -- which operation it is
  rw [pieces3] at hpre
  obtain ⟨rest, hr⟩ := hpre
  have hDl : D.length < p.length := by
    have := congrArg List.length hr
    simp only [List.length_append, List.length_cons, List.length_nil, List.length_map] at this
    omega
  have hq : q = opB p[D.length] := by
    have h1 : (p.map opB)[D.length]? = some q := by
      rw [← hr, List.append_assoc, List.getElem?_append_right (Nat.le_refl _), Nat.sub_self]; rfl
    rw [List.getElem?_map, List.getElem?_eq_getElem hDl] at h1
    exact (Option.some.inj h1).symm
  subst hq
  have hok : OpOk p[D.length] := ho _ (List.getElem_mem hDl)
  rw [C_yield hI.loop rfl]
  have e1 : gAssign [90] [w] tm = FF 124 (gf (tm.set 90 w)) := (FF_gf (show (tm.set 90 w).length = 124 by rw [List.length_set]; exact htm)).symm
  rw [e1]
  show Ev (g23 (C (j + 2)) (j + 2) [1,1,1,1,0,0,0,1,0,1,1,1,1,1,1,0,1,0,0] (FF 124 (gf (tm.set 90 w))) H (hBegin Tryd.prog (C (j + 2)) (j + 2) L (fAt Tryd.f23 [1,1,1,1,0,0,0,1,0,1,1,1,1,1,1,0,1,0,1]))) _
  rw [f23_R23_eq]
  have e9 : gf (tm.set 90 w) 9 = .pointer (some ⟨b9, 0, none⟩) := by
    unfold gf
    rw [List.getD_eq_getElem?_getD, List.getElem?_set_ne (by decide), h9]; rfl
  have e90 : gf (tm.set 90 w) 90 = w := by
    unfold gf
    rw [List.getD_eq_getElem?_getD, List.getElem?_set_self (by omega)]; rfl
  rw [e9, e90]
  generalize gf (tm.set 90 w) 2 = x2
  unfold f23_R23
  rw [onReady_s hI.loop]
  have hLn' := GH.get_lt hI.loop
  have hE1 : Ext H0 (H.set L (.loop .busy none tm [90] rdA rdB)) := hI.e.set hL hLn' _
  have hL1 := GH.get_set_same (o := .loop .busy none tm [90] rdA rdB) hI.loop
  have hO1 : ∀ b, L ≠ b → (H.set L (.loop .busy none tm [90] rdA rdB)).get b = H.get b := fun b hb => GH.get_set_other hb hLn'
  have hn1 : (H.set L (.loop .busy none tm [90] rdA rdB)).n = H.n := rfl
  revert hE1 hL1 hO1 hn1
  generalize H.set L (.loop .busy none tm [90] rdA rdB) = G
  intro hE1 hL1 hO1 hn1
  obtain ⟨wo, hbox, hown⟩ := hI.box
  have hs1 : SlR tyB G w (opB p[D.length]) := hw.slr.rows flat_b fun b row e ro hb => hO1 b (by rintro rfl; rw [hI.loop] at hb; cases hb)
  have hown1 : Own tyOp 48 H0 G wo (p.take D.length) := hown.keep fun b hb => hO1 b (fun hh => own_nl hown hI.loop (by rw [hb, hh]))
  have gb := (hO1 b9 (Ne.symm h9L)).trans hbox
  have gc := (hO1 bc hLc).trans hI.c1
  have gn := (hO1 bn hLn).trans hI.c2
  refine Ev.call0 (decode_ok (k := j + 1) hok hs1) fun u H3 hu => ?_
  obtain ⟨hE3, hu⟩ := hu
  have hE3 : Ext G H3 := hE3
  have hu : u = opV p[D.length] := hu
  subst hu
  obtain ⟨H4, f1, f2, f3, f4⟩ := box (P := Tryd.prog) (t := 48) (H := H3) (v := opV p[D.length]) (cs := opC p[D.length]) (row := [(.int .u8 0), (.int .u8 0), (.int .u8 0), (.int .i64 0), (.int .u8 0), (.int .i64 0)]) (e := 48) (gSize_ld ld48) rfl rfl rfl
  simp only [f1, onH_s]
  unfold f23_r25
  simp only [op_ld (PtC.of f3), onV_n]
  refine Ev.call0 (check_ok (k := j) hok) fun u H5 hu => ?_
  obtain ⟨hE5, hu⟩ := hu
  have hE5 : Ext H4 H5 := hE5
  have hu : u = .int .i64 0 := hu
  subst hu
  simp only [bin_neq, onV_n, f23_g25_4, asB_b, onBool_d]
  rw [if_neg (fun h => h rfl)]
  simp only [op_ld (PtC.of (hE5.get_of f3)), onV_n]
  refine Ev.call0 (encode_ok (k := j + 1) hok) fun u H6 hu => ?_
  obtain ⟨hE6, hu⟩ := hu
  have hE6 : Ext H5 H6 := hE6
  have hu : SlR tyB H6 u (opB p[D.length]) := hu
  have hE16 : Ext G H6 := ((hE3.trans f2).trans hE5).trans hE6
  refine Ev.call0 (equal_ok (k := j + 1) hu (hs1.mono hE16) (by simp [opB]; omega) (by simp [opB])) fun u7 H7 hu7 => ?_
  injection hu7 with q1 q2
  have q2 := q2.symm
  subst q1; subst q2
  have g9 := hE16.get_of gb
  have lw : gLoad Tryd.prog 26 (.pointer (some ⟨b9, 0, none⟩)) H6 = some wo := ldc g9 ld26 rfl
  have lo : gLoad Tryd.prog 48 (.pointer (some ⟨H3.n, 0, none⟩)) H6 = some (opV p[D.length]) := op_ld (PtC.of (hE6.get_of (hE5.get_of f3)))
  simp only [not_b, onV_n, asB_b, onBool_i, Bool.not_true, Bool.false_eq_true, if_false, lw, lo, build26_1, onVH_s]
  have hE7 := Ext.push H6 (.row (opC p[D.length]) 48 false)
  have hE17 := hE16.trans hE7
  have hf : gFirst tyOp.sz [p[D.length]].length (.slice (some ⟨H6.n, 0, none⟩) 1 1) (H6.push (.row (opC p[D.length]) 48 false)) = some (opC p[D.length]) := by
    unfold gFirst
    simp only [GH.get_push_new]
    rfl
  have hown7 := Own.extO hE17 hown1
  obtain ⟨w', H8, a1, a2, a3, a4, a5, a6⟩ := Own.append (P := Tryd.prog) (st := 26) (xt := 26) (hE1.trans hE17) hown7 u26 u26 el48 ⟨_, _, rfl⟩ hf (.cons (c := opC p[D.length]) (cs := []) rfl .nil) (by simp; omega)
  have a1' : gAppend Tryd.prog 26 26 wo (.slice (some ⟨H6.n, 0, none⟩) 1 1) (H6.push (.row (opC p[D.length]) 48 false)) = some (w', H8) := a1
  have g9' := hE17.get_of gb
  have gL' := hE17.get_of hL1
  have gc' := hE17.get_of gc
  have gn' := hE17.get_of gn
  have k9 := (a5 b9 (GH.get_lt g9') (own_ne hown7 g9' (by decide))).trans g9'
  have kL := (a5 L (GH.get_lt gL') (own_nl hown7 gL')).trans gL'
  have kc := (a5 bc (GH.get_lt gc') (own_ne hown7 gc' (by decide))).trans gc'
  have kn := (a5 bn (GH.get_lt gn') (own_ne hown7 gn' (by decide))).trans gn'
  obtain ⟨s1, s2, s3⟩ := a3.cell
  have hs9 := store1 (P := Tryd.prog) (t := 26) (o := 0) (v := w') k9 (gSize_ld ld26) s3 (by rw [s3] at s2; simpa using s2) (by simp)
  have hlt9 := GH.get_lt k9
  simp only [a1', onVH_s, hs9, onH_s]
  have kL2 := (GH.get_set_other (o := .row [w'] 26 false) h9L hlt9).trans kL
  have e9' : (H8.set b9 (.row ([wo].set 0 w') 26 false)) = H8.set b9 (.row [w'] 26 false) := rfl
  rw [e9', hRound_n kL2]
  have hltL := GH.get_lt kL2
  have ho3 : Own tyOp 48 H0 H8 w' (p.take (D ++ [opB p[D.length]]).length) := by
    rw [List.length_append, List.length_singleton, List.take_succ_eq_append_getElem hDl]
    exact a3
  refine Ev.mk ⟨rfl, (a2.set hb9 hlt9 _).set hL hltL _, GH.get_set_same kL2, ⟨w', ?_, ?_⟩, ?_, ?_⟩
  · exact (GH.get_set_other (Ne.symm h9L) hltL).trans (GH.get_set_same k9)
  · refine ho3.keep fun b hb => ?_
    have n1 : L ≠ b := fun hh => own_nl ho3 kL (by rw [hb, hh])
    have n2 : b9 ≠ b := fun hh => own_ne ho3 k9 (by decide) (by rw [hb, hh])
    exact (GH.get_set_other n1 hltL).trans (GH.get_set_other n2 hlt9)
  · exact (GH.get_set_other hLc hltL).trans ((GH.get_set_other h9c hlt9).trans kc)
  · exact (GH.get_set_other hLn hltL).trans ((GH.get_set_other h9n hlt9).trans kn)
end Go.Proofs.YtdhadannleldiaaDoor
/- Tapes: a tape is read. -/
namespace Go.Proofs.YtdhadannleldiaaDoor
open Go.Gh
set_option linter.unusedVariables false
set_option linter.unusedSimpArgs false

/-- A cell of another type is put: the slices' rows stand. -/
theorem scSet {α : Type} {A : Ty α} {e e' b : Nat} {H : GH} {v : Value} {xs : List α} {row : List Value} {ro : Bool} {o : GObj} (hA : A.Flat) (hg : H.get b = some (.row row e' ro)) (hne : e' ≠ e) (h : Sc A e H v xs) : Sc A e (H.set b o) v xs :=
  h.keep hA fun q r2 ro2 hq => (GH.get_set_other (fun hh => by subst hh; rw [hg] at hq; have := Option.some.inj hq; injection this with _ h6 _; exact hne h6) (GH.get_lt hg)).trans hq
theorem next_ok {k b1 n : Nat} {w : Value} {xs : List Nat} {H : GH} (g1 : H.get b1 = some (.row [w] 24 false)) (hw : Sc tyB 5 H w xs) (hn : n ≤ xs.length) :
    Ev (C (k + 1) (.func (.func 30) #[] #[.pointer (some ⟨b1, 0, none⟩)]) [.int .i64 (n : Int)] H) fun r => ∃ l w', r.1 = .tuple #[l, .bool true] ∧ r.2 = H.set b1 (.row [w'] 24 false) ∧ Sc tyB 5 r.2 l (xs.take n) ∧ Sc tyB 5 r.2 w' (xs.drop n) := by
  rw [C_clos T30]
  show Ev (gFunc Tryd.prog (C k) k Tryd.f30 [.int .i64 (n : Int), .pointer (some ⟨b1, 0, none⟩)] H) _
  rw [f30_eq]
  unfold f30_sh
  have l1 : gLoad Tryd.prog 24 (.pointer (some ⟨b1, 0, none⟩)) H = some w := ldc g1 ld24 rfl
  obtain ⟨l, s1, s2⟩ := hw.to (P := Tryd.prog) (t := 24) (m := n) u24 (elemOk_size el5) hn (k := .i64)
  obtain ⟨w', s3, s4⟩ := hw.from (P := Tryd.prog) (t := 24) (i := n) u24 (elemOk_size el5) hn (k := .i64)
  obtain ⟨q1, q2, q3⟩ := s4.slr.cell
  have hs := store1 (P := Tryd.prog) (t := 24) (o := 0) (v := w') g1 (gSize_ld ld24) q3 (by rw [q3] at q2; simpa using q2) (by simp)
  simp only [l1, onV_n, hw.slr.oLen u24, bin_gtr, asB_b, onBool_d]
  rw [if_neg (by omega)]
  simp only [l1, onV_n, s1, s3, hs, onH_s]
  exact Ev.mk ⟨l, w', rfl, rfl, scSet flat_b g1 (by decide) s2, scSet flat_b g1 (by decide) s4⟩

/-- What is handed back is the result's row. -/
theorem ret55 {H : GH} {b2 : Nat} {wo : Value} {p q : Bool} {e : Int} {K : Value → GH → M (Value × GH)} {Q : Value × GH → Prop} (g2 : H.get b2 = some (.row [wo, .bool p, .bool q, .int .i64 e] 55 false)) (h1 : oneC wo = true)
    (hQ : Q (.agg #[wo, .bool p, .bool q, .int .i64 e], H.set b2 (.row [wo, .bool p, .bool q, .int .i64 e] 55 false))) :
    Ev (onV (gLoad Tryd.prog 55 (.pointer (some ⟨b2, 0, none⟩)) H) fun v1 => onH (gStore Tryd.prog 55 (.pointer (some ⟨b2, 0, none⟩)) v1 H) fun H2 => onV (gResL Tryd.prog H2 [((.pointer (some ⟨b2, 0, none⟩)), some 55)]) fun v => some [(v, H2)]) Q := by
  have l : gLoad Tryd.prog 55 (.pointer (some ⟨b2, 0, none⟩)) H = some (.agg #[wo, .bool p, .bool q, .int .i64 e]) := (PtC.of g2).loadA ld55
  have hs := storeAll (P := Tryd.prog) (t := 55) (sz := 4) (v := .agg #[wo, .bool p, .bool q, .int .i64 e]) (cs := [wo, .bool p, .bool q, .int .i64 e]) g2 (gSize_ld ld55) rfl rfl rfl (by simp only [List.all_cons, h1]; rfl)
  have l2 : gLoad Tryd.prog 55 (.pointer (some ⟨b2, 0, none⟩)) (H.set b2 (.row [wo, .bool p, .bool q, .int .i64 e] 55 false)) = some (.agg #[wo, .bool p, .bool q, .int .i64 e]) := (PtC.of (GH.get_set_same g2)).loadA ld55
  simp only [l, onV_n, hs, onH_s, gResL1, l2]
  exact Ev.mk hQ
/-- What stands while a tape is read. -/
structure RdI (H0 H : GH) (b1 b2 : Nat) (w wo : Value) (rest : List Nat) (done : List OpD) : Prop where
  e : Ext H0 H
  g1 : H.get b1 = some (.row [w] 24 false)
  hw : Sc tyB 5 H w rest
  g2 : H.get b2 = some (.row [wo, .bool false, .bool false, .int .i64 0] 55 false)
  ho : Own tyOp 48 H0 H wo done
theorem ownSet {α : Type} {A : Ty α} {e e' b : Nat} {H0 H : GH} {v : Value} {xs : List α} {row : List Value} {ro : Bool} {o : GObj} (hg : H.get b = some (.row row e' ro)) (hne : e' ≠ e) (h : Own A e H0 H v xs) : Own A e H0 (H.set b o) v xs :=
  h.keep fun q hq => GH.get_set_other (fun hh => own_ne h hg hne (by rw [hq, hh])) (GH.get_lt hg)
/-- What reading hands back. -/
def RdQ (H0 : GH) (b2 : Nat) (fin : Bool) (l : List OpD) (r : Value × GH) : Prop := Ext H0 r.2 ∧ ∃ w, r.1 = .agg #[w, .bool (!fin), .bool fin, .int .i64 0] ∧ Own tyOp 48 H0 r.2 w l
section
variable {k k' b1 b2 : Nat} {H0 : GH} {x0 w wo : Value}
theorem own_one {H : GH} {v : Value} {xs : List OpD} (h : Own tyOp 48 H0 H v xs) : oneC v = true := by
  obtain ⟨s1, s2, s3⟩ := h.cell
  rw [s3] at s2
  simpa using s2
/-- The tape is open. -/
theorem rd_33 {H : GH} {done : List OpD} (hb2 : H0.n ≤ b2) (hI : RdI H0 H b1 b2 w wo [] done) : Ev (f23_r33 (C k) k' (.pointer (some ⟨b2, 0, none⟩)) H) (RdQ H0 b2 false done) := by
  unfold f23_r33
  have hs := store1 (P := Tryd.prog) (t := 4) (o := 1) (v := .bool true) hI.g2 (gSize_ld ld4) rfl rfl (by simp)
  have hlt := GH.get_lt hI.g2
  simp only [fa55_1, onV_n, hs, onH_s]
  have g2' := GH.get_set_same (o := .row ([wo, .bool false, .bool false, .int .i64 0].set 1 (.bool true)) 55 false) hI.g2
  have g2'' : (H.set b2 (.row ([wo, .bool false, .bool false, .int .i64 0].set 1 (.bool true)) 55 false)).get b2 = some (.row [wo, .bool true, .bool false, .int .i64 0] 55 false) := g2'
  have ho' := ownSet (o := .row ([wo, .bool false, .bool false, .int .i64 0].set 1 (.bool true)) 55 false) hI.g2 (by decide) hI.ho
  exact ret55 (K := fun v H => none) g2'' (own_one hI.ho) ⟨(hI.e.set hb2 hlt _).set hb2 (GH.get_lt g2'') _, wo, rfl, ownSet g2'' (by decide) ho'⟩
/-- The tape ends. -/
theorem rd_17 {sg : Sg65} {H : GH} {done : List OpD} (hb2 : H0.n ≤ b2) (hI : RdI H0 H b1 b2 w wo [] done) : Ev (f23_r17 (C k) k' sg (.pointer (some ⟨b1, 0, none⟩)) (.pointer (some ⟨b2, 0, none⟩)) H) (RdQ H0 b2 true done) := by
  unfold f23_r17
  have l1 : gLoad Tryd.prog 24 (.pointer (some ⟨b1, 0, none⟩)) H = some w := ldc hI.g1 ld24 rfl
  have hlt := GH.get_lt hI.g2
  have hs := store1 (P := Tryd.prog) (t := 4) (o := 2) (v := .bool true) hI.g2 (gSize_ld ld4) rfl rfl (by simp)
  have g2' := GH.get_set_same (o := .row ([wo, .bool false, .bool false, .int .i64 0].set 2 (.bool true)) 55 false) hI.g2
  have g2'' : (H.set b2 (.row ([wo, .bool false, .bool false, .int .i64 0].set 2 (.bool true)) 55 false)).get b2 = some (.row [wo, .bool false, .bool true, .int .i64 0] 55 false) := g2'
  have l2 : gLoad Tryd.prog 4 (.pointer (some ⟨b2, 2, none⟩)) (H.set b2 (.row ([wo, .bool false, .bool false, .int .i64 0].set 2 (.bool true)) 55 false)) = some (.bool true) := ldc g2'' ld4 rfl
  simp only [l1, onV_n, hI.hw.slr.oLen u24, List.length_nil, bin_eql, show decide (((0 : Nat) : Int) = 0) = true from rfl, fa55_2, hs, onH_s, l2, not_b, asB_b, onBool_i, Bool.not_true, Bool.false_eq_true, if_false]
  have ho' := ownSet (o := .row ([wo, .bool false, .bool false, .int .i64 0].set 2 (.bool true)) 55 false) hI.g2 (by decide) hI.ho
  exact ret55 (K := fun v H => none) g2'' (own_one hI.ho) ⟨(hI.e.set hb2 hlt _).set hb2 (GH.get_lt g2'') _, wo, rfl, ownSet g2'' (by decide) ho'⟩
end
/-- A block's operations are put behind the others. -/
theorem rd_29 {k k' b1 b2 b9 n : Nat} {H0 : GH} {w wo wp : Value} {sg : Sg65} {H : GH} {rest : List Nat} {done p : List OpD} {Q : Value × GH → Prop} (hb2 : H0.n ≤ b2) (hn : n = p.length) (hl : done.length + p.length ≤ 4096) (hI : RdI H0 H b1 b2 w wo rest done) (g9 : H.get b9 = some (.row [wp] 26 false)) (hp : SlR tyOp H wp p)
    {x3 : Value} (hsg : ∀ x0 x10 x11 x12 x13 x14 x15 x16 x17 x18 x19 x20 x21 x22 x23 x24 x25 x26 x58 x59 x74 x75 x78 x79 x80 x81 x82 x83 x84 x85 x86 x91 x92 x93 x94 x95 x96 x97 x98 x99 x100 x101 x102 x103 x104 x105 x106 x107 x108 x109 x110 x111 x112 x113 x114 x115 x116 x117 x118 x119 x120 x121 G wo', RdI H0 G b1 b2 w wo' rest (done ++ p) → Ev (sg x0 (.pointer (some ⟨b1, 0, none⟩)) (.pointer (some ⟨b2, 0, none⟩)) x3 x10 x11 x12 x13 x14 x15 x16 x17 x18 x19 x20 x21 x22 x23 x24 x25 x26 x58 x59 x74 x75 x78 x79 x80 x81 x82 x83 x84 x85 x86 x91 x92 x93 x94 x95 x96 x97 x98 x99 x100 x101 x102 x103 x104 x105 x106 x107 x108 x109 x110 x111 x112 x113 x114 x115 x116 x117 x118 x119 x120 x121 G) Q) :
    ∀ x0 x10 x11 x12 x13 x14 x15 x16 x17 x18 x19 x20 x21 x22 x23 x24 x25 x26 x58 x59 x74 x75 x78 x79 x80 x81 x82 x83 x84 x85 x86 x91 x92 x93 x94 x95 x96 x97 x98 x99 x100 x101 x102 x103 x104 x105 x106 x107 x108 x115 x116 x1 x2 x4 x9, x1 = .pointer (some ⟨b1, 0, none⟩) → x2 = .pointer (some ⟨b2, 0, none⟩) → x4 = .int .i64 (n : Int) → x9 = .pointer (some ⟨b9, 0, none⟩) → Ev (f23_r29 (C k) k' sg x0 x1 x2 x3 x4 x9 x10 x11 x12 x13 x14 x15 x16 x17 x18 x19 x20 x21 x22 x23 x24 x25 x26 x58 x59 x74 x75 x78 x79 x80 x81 x82 x83 x84 x85 x86 x91 x92 x93 x94 x95 x96 x97 x98 x99 x100 x101 x102 x103 x104 x105 x106 x107 x108 x115 x116 H) Q := by
  intro x0 x10 x11 x12 x13 x14 x15 x16 x17 x18 x19 x20 x21 x22 x23 x24 x25 x26 x58 x59 x74 x75 x78 x79 x80 x81 x82 x83 x84 x85 x86 x91 x92 x93 x94 x95 x96 x97 x98 x99 x100 x101 x102 x103 x104 x105 x106 x107 x108 x115 x116 x1 x2 x4 x9 h1 h2 h4 h9
  subst h1; subst h2; subst h4; subst h9; subst hn
  unfold f23_r29
  have l2 : gLoad Tryd.prog 26 (.pointer (some ⟨b2, 0, none⟩)) H = some wo := ldc hI.g2 ld26 rfl
  have l9 : gLoad Tryd.prog 26 (.pointer (some ⟨b9, 0, none⟩)) H = some wp := ldc g9 ld26 rfl
  have hos := hI.ho.slr hI.e
  have e1 : IntKind.wrap .i64 ((done.length : Int) + (p.length : Int)) = ((done.length + p.length : Nat) : Int) := by rw [Go.IntWalk.i64_in _ (by omega)]; omega
  simp only [fa55_0, onV_n, l2, hos.oLen u26, bin_add, e1, bin_gtr, asB_b, onBool_d]
  rw [if_neg (by omega)]
  obtain ⟨new, hf, hc⟩ := hp.first
  obtain ⟨w', H8, a1, a2, a3, a4, a5, a6⟩ := Own.append (P := Tryd.prog) (st := 26) (xt := 26) hI.e hI.ho u26 u26 el48 hp.val hf (hc.flat flat_op) (by omega)
  have k1 := (a5 b1 (GH.get_lt hI.g1) (own_ne hI.ho hI.g1 (by decide))).trans hI.g1
  have k2 := (a5 b2 (GH.get_lt hI.g2) (own_ne hI.ho hI.g2 (by decide))).trans hI.g2
  obtain ⟨s1, s2, s3⟩ := a3.cell
  have hs := store1 (P := Tryd.prog) (t := 26) (o := 0) (v := w') k2 (gSize_ld ld26) s3 (by rw [s3] at s2; simpa using s2) (by simp)
  simp only [fa55_0, onV_n, l2, l9, a1, onVH_s, hs, onH_s]
  have hlt := GH.get_lt k2
  have hne : b2 ≠ b1 := fun hh => by
    subst hh
    have h1 := hI.g1
    rw [hI.g2] at h1
    have h2 := Option.some.inj h1
    injection h2 with _ h6 _
    exact absurd h6 (by decide)
  refine hsg _ _ _ _ _ _ _ _ _ _ _ _ _ _ _ _ _ _ _ _ _ _ _ _ _ _ _ _ _ _ _ _ _ _ _ _ _ _ _ _ _ _ _ _ _ _ _ _ _ _ _ _ _ _ _ _ _ _ _ _ _ _ _ w' ⟨a2.set hb2 hlt _, (GH.get_set_other hne hlt).trans k1, ?_, GH.get_set_same k2, ownSet k2 (by decide) a3⟩
  refine scSet flat_b k2 (by decide) (hI.hw.keep flat_b fun q row ro hq => (a5 q (GH.get_lt hq) (own_ne hI.ho hq (by decide))).trans hq)
theorem RdI.ext {H0 H H' : GH} {b1 b2 : Nat} {w wo : Value} {rest : List Nat} {done : List OpD} (hE : Ext H H') (h : RdI H0 H b1 b2 w wo rest done) : RdI H0 H' b1 b2 w wo rest done :=
  ⟨h.e.trans hE, hE.get_of h.g1, h.hw.mono hE, hE.get_of h.g2, Own.extO hE h.ho⟩
/-- A block's operations are read and put behind the others. -/
theorem rd_22 {k k' b1 b2 n : Nat} {H0 : GH} {w wo l : Value} {sg : Sg65} {H : GH} {rest : List Nat} {done p : List OpD} {Q : Value × GH → Prop} (hk : 1000 ≤ k) (hb2 : H0.n ≤ b2) (hn : n = p.length) (hl : done.length + p.length ≤ 4096) (hp : p.length ≤ 32) (hok : ∀ o ∈ p, OpOk o) (hI : RdI H0 H b1 b2 w wo rest done) (hs : Sc tyB 5 H l (blkH p))
    {x3 : Value} (hsg : ∀ x0 x10 x11 x12 x13 x14 x15 x16 x17 x18 x19 x20 x21 x22 x23 x24 x25 x26 x58 x59 x74 x75 x78 x79 x80 x81 x82 x83 x84 x85 x86 x91 x92 x93 x94 x95 x96 x97 x98 x99 x100 x101 x102 x103 x104 x105 x106 x107 x108 x109 x110 x111 x112 x113 x114 x115 x116 x117 x118 x119 x120 x121 G wo', RdI H0 G b1 b2 w wo' rest (done ++ p) → Ev (sg x0 (.pointer (some ⟨b1, 0, none⟩)) (.pointer (some ⟨b2, 0, none⟩)) x3 x10 x11 x12 x13 x14 x15 x16 x17 x18 x19 x20 x21 x22 x23 x24 x25 x26 x58 x59 x74 x75 x78 x79 x80 x81 x82 x83 x84 x85 x86 x91 x92 x93 x94 x95 x96 x97 x98 x99 x100 x101 x102 x103 x104 x105 x106 x107 x108 x109 x110 x111 x112 x113 x114 x115 x116 x117 x118 x119 x120 x121 G) Q) :
    ∀ x0 x6 x7 x8 x10 x11 x12 x13 x14 x15 x16 x17 x18 x19 x20 x21 x22 x23 x24 x25 x26 x27 x28 x29 x30 x31 x32 x33 x34 x35 x36 x37 x38 x39 x40 x41 x42 x43 x44 x45 x46 x47 x48 x49 x50 x51 x52 x53 x54 x55 x56 x57 x58 x59 x60 x61 x62 x63 x64 x65 x66 x67 x68 x69 x70 x71 x72 x73 x74 x75 x76 x77 x78 x79 x80 x81 x82 x83 x84 x85 x86 x91 x92 x93 x94 x95 x96 x97 x98 x99 x100 x101 x102 x103 x104 x105 x106 x107 x108 x109 x110 x111 x112 x113 x114 x115 x116 x117 x118 x119 x120 x121 x1 x2 x4 x5 x9, x1 = .pointer (some ⟨b1, 0, none⟩) → x2 = .pointer (some ⟨b2, 0, none⟩) → x4 = .int .i64 (n : Int) → x5 = l → x9 = .pointer (some ⟨H.n, 0, none⟩) → Ev (f23_r22 (C (k + 4)) k' sg x0 x1 x2 x3 x4 x5 x6 x7 x8 x9 x10 x11 x12 x13 x14 x15 x16 x17 x18 x19 x20 x21 x22 x23 x24 x25 x26 x27 x28 x29 x30 x31 x32 x33 x34 x35 x36 x37 x38 x39 x40 x41 x42 x43 x44 x45 x46 x47 x48 x49 x50 x51 x52 x53 x54 x55 x56 x57 x58 x59 x60 x61 x62 x63 x64 x65 x66 x67 x68 x69 x70 x71 x72 x73 x74 x75 x76 x77 x78 x79 x80 x81 x82 x83 x84 x85 x86 x91 x92 x93 x94 x95 x96 x97 x98 x99 x100 x101 x102 x103 x104 x105 x106 x107 x108 x109 x110 x111 x112 x113 x114 x115 x116 x117 x118 x119 x120 x121 (H.push (.row [(.slice none 0 0)] 26 false))) Q := by
  intro x0 x6 x7 x8 x10 x11 x12 x13 x14 x15 x16 x17 x18 x19 x20 x21 x22 x23 x24 x25 x26 x27 x28 x29 x30 x31 x32 x33 x34 x35 x36 x37 x38 x39 x40 x41 x42 x43 x44 x45 x46 x47 x48 x49 x50 x51 x52 x53 x54 x55 x56 x57 x58 x59 x60 x61 x62 x63 x64 x65 x66 x67 x68 x69 x70 x71 x72 x73 x74 x75 x76 x77 x78 x79 x80 x81 x82 x83 x84 x85 x86 x91 x92 x93 x94 x95 x96 x97 x98 x99 x100 x101 x102 x103 x104 x105 x106 x107 x108 x109 x110 x111 x112 x113 x114 x115 x116 x117 x118 x119 x120 x121 x1 x2 x4 x5 x9 h1 h2 h4 h5 h9
  unfold f23_r22
  have hlen := blkH_len p
  have hE1 := Ext.push H (.row [(.slice none 0 0)] 26 false)
  have g9 : (H.push (.row [(.slice none 0 0)] 26 false)).get H.n = some (.row [(.slice none 0 0)] 26 false) := GH.get_push_new
  have hn1 : (H.push (.row [(.slice none 0 0)] 26 false)).n = H.n + 1 := rfl
  revert hE1 g9 hn1
  generalize H.push (.row [(.slice none 0 0)] 26 false) = H1
  intro hE1 g9 hn1
  subst h5
  obtain ⟨v, s1, s2⟩ := hs.from (P := Tryd.prog) (t := 24) (i := 1) u24 (elemOk_size el5) (by omega) (k := .i64)
  have s1 : oSlice Tryd.prog 24 x5 (some (.int .i64 1)) none none = some v := s1
  have s2 : Sc tyB 5 H v (p.flatMap opB) := s2
  have hfl := flatB_len p
  obtain ⟨a, c, hv⟩ := s2.slr.val
  subst hv
  simp only [s1, onV_n]
  refine Ev.call0 (chunkB_ok (k := k + 3) (H := H1) (n := 3) (by omega)) fun u H3 hu => ?_
  injection hu with u1 u2
  subst u1
  have hE2 := (Ext.push H1 (.row [.slice a (p.flatMap opB).length c] 24 false)).push' (.row [.int .i64 ((3 : Nat) : Int)] 3 false)
  have gc : ((H1.push (.row [.slice a (p.flatMap opB).length c] 24 false)).push (.row [.int .i64 ((3 : Nat) : Int)] 3 false)).get H1.n = some (.row [.slice a (p.flatMap opB).length c] 24 false) := (GH.get_push_old (Nat.lt_succ_self _)).trans GH.get_push_new
  have gn : ((H1.push (.row [.slice a (p.flatMap opB).length c] 24 false)).push (.row [.int .i64 ((3 : Nat) : Int)] 3 false)).get (H1.n + 1) = some (.row [.int .i64 3] 3 false) := GH.get_push_new
  have hn3 : ((H1.push (.row [.slice a (p.flatMap opB).length c] 24 false)).push (.row [.int .i64 ((3 : Nat) : Int)] 3 false)).n = H1.n + 2 := rfl
  rw [← u2] at hE2 gc gn hn3
  clear u2
  rw [onFunc_s]
  generalize htm : [x0, x1, x2, x3, x4, x5, x6, x7, x8, x9, x10, x11, x12, x13, x14, x15, x16, x17, x18, x19, x20, x21, x22, x23, x24, x25, x26, x27, x28, x29, x30, x31, x32, x33, x34, x35, x36, x37, x38, x39, x40, x41, x42, x43, x44, x45, x46, x47, x48, x49, x50, x51, x52, x53, x54, x55, x56, x57, x58, x59, x60, x61, x62, x63, x64, x65, x66, x67, x68, x69, x70, x71, x72, x73, x74, x75, x76, x77, x78, x79, x80, x81, x82, x83, x84, x85, x86, x5, .slice a (p.flatMap opB).length c, (.func (.func 35) #[] #[(.pointer (some ⟨H1.n, 0, none⟩)), (.pointer (some ⟨H1.n + 1, 0, none⟩))]), undef, x91, x92, x93, x94, x95, x96, x97, x98, x99, x100, x101, x102, x103, x104, x105, x106, x107, x108, x109, x110, x111, x112, x113, x114, x115, x116, x117, x118, x119, x120, x121, undef, undef] = tm
  have ht1 : tm.length = 124 := by rw [← htm]; rfl
  have ht2 : tm[9]? = some (.pointer (some ⟨H.n, 0, none⟩)) := by rw [← htm, ← h9]; rfl
  clear htm
  have gL : (H3.push (.loop .ready none tm [90] rdA rdB)).get H3.n = some (.loop .ready none tm [90] rdA rdB) := GH.get_push_new
  have hE4 := Ext.push H3 (.loop .ready none tm [90] rdA rdB)
  show Ev (bindM (C (k + 4) (.func (.func 35) #[] #[.pointer (some ⟨H1.n, 0, none⟩), .pointer (some ⟨H1.n + 1, 0, none⟩)]) [.func (.yield H3.n) #[] #[]] (GH.push H3 (.loop .ready none tm [90] rdA rdB))) fun x => _) Q
  revert gL hE4
  generalize GH.push H3 (.loop .ready none tm [90] rdA rdB) = H4
  intro gL hE4
  have hE24 := hE2.trans hE4
  have hE14 := hE1.trans hE24
  have hRI : RI H H3.n H.n H1.n (H1.n + 1) tm (.slice a (p.flatMap opB).length c) p [] H4 := ⟨hE14, gL, ⟨_, hE24.get_of g9, Own.nil⟩, hE4.get_of gc, hE4.get_of gn⟩
  have hItB : ItB 3 H1.n (H1.n + 1) (.slice a (p.flatMap opB).length c) (p.flatMap opB) (RI H H3.n H.n H1.n (H1.n + 1) tm (.slice a (p.flatMap opB).length c) p) := ⟨fun D G hG => ⟨hG.c1, hG.c2, s2.mono hG.e⟩⟩
  refine Ev.bind (R := fun r => RI H H3.n H.n H1.n (H1.n + 1) tm (.slice a (p.flatMap opB).length c) p (pieces 3 (p.flatMap opB)) r.2) (itB_ok (k := k + 3) (by decide) (by decide) (by omega) (by omega) hItB (fun D q G w hpre hG hw' => rd_step (j := k) (by omega) hok hp ht1 ht2 (Nat.le_refl _) (by omega) (by omega) (by omega) (by omega) (by omega) (by omega) hpre hG hw') hRI) fun r hr => ?_
  have hL := GH.get_lt hr.loop
  rw [onEnd_n (by decide) hr.loop]
  obtain ⟨wp, q1, q2⟩ := hr.box
  rw [pieces3, List.length_map, List.take_length] at q2
  have hE5 : Ext H (r.2.set H3.n (.loop .exhausted none tm [90] rdA rdB)) := hr.e.set (by omega) hL _
  have g9' := (GH.get_set_other (o := .loop .exhausted none tm [90] rdA rdB) (show H3.n ≠ H.n by omega) hL).trans q1
  have q3 : SlR tyOp (r.2.set H3.n (.loop .exhausted none tm [90] rdA rdB)) wp p := (q2.slr hr.e).rows flat_op fun b row e ro hb => GH.get_set_other (fun hh => by rw [← hh, hr.loop] at hb; cases hb) hL
  exact rd_29 (k := k + 4) hb2 hn hl (hI.ext hE5) g9' q3 hsg _ _ _ _ _ _ _ _ _ _ _ _ _ _ _ _ _ _ _ _ _ _ _ _ _ _ _ _ _ _ _ _ _ _ _ _ _ _ _ _ _ _ _ _ _ _ _ _ _ _ _ _ _ _ _ h1 h2 h4 h9
theorem conv5_40' (a : Nat) : (oConvert Tryd.prog 5 40 (bv8 a)).filter closed = some (.int .u16 (IntKind.wrap .u16 (a : Int))) := conv5_40 _
/-- What is behind the blocks. -/
def tail (fin : Bool) : List Nat := if fin then blk [] else []
theorem tl_fin : tail true = 0 :: ([] ++ [crc [0] / 256, crc [0] % 256]) ++ [] := rfl
/-- A block is taken off, and its check sequence fits. -/
theorem rd_6 {k k' b1 b2 : Nat} {H0 : GH} {w wo : Value} {sg : Sg65} {H : GH} {rest : List Nat} {done p : List OpD} {Q : Value × GH → Prop} (hk : 1000 ≤ k) (hb1 : H0.n ≤ b1) (hb2 : H0.n ≤ b2) (hl : done.length + p.length ≤ 4096) (hp : p.length ≤ 32) (hok : ∀ o ∈ p, OpOk o) (hI : RdI H0 H b1 b2 w wo (blk p ++ rest) done)
    (h0 : p = [] → rest = [] ∧ ∀ r, RdQ H0 b2 true done r → Q r)
    (hsg : p ≠ [] → ∀ x0 x10 x11 x12 x13 x14 x15 x16 x17 x18 x19 x20 x21 x22 x23 x24 x25 x26 x58 x59 x74 x75 x78 x79 x80 x81 x82 x83 x84 x85 x86 x91 x92 x93 x94 x95 x96 x97 x98 x99 x100 x101 x102 x103 x104 x105 x106 x107 x108 x109 x110 x111 x112 x113 x114 x115 x116 x117 x118 x119 x120 x121 G w' wo', RdI H0 G b1 b2 w' wo' rest (done ++ p) → Ev (sg x0 (.pointer (some ⟨b1, 0, none⟩)) (.pointer (some ⟨b2, 0, none⟩)) (.func (.func 30) #[] #[.pointer (some ⟨b1, 0, none⟩)]) x10 x11 x12 x13 x14 x15 x16 x17 x18 x19 x20 x21 x22 x23 x24 x25 x26 x58 x59 x74 x75 x78 x79 x80 x81 x82 x83 x84 x85 x86 x91 x92 x93 x94 x95 x96 x97 x98 x99 x100 x101 x102 x103 x104 x105 x106 x107 x108 x109 x110 x111 x112 x113 x114 x115 x116 x117 x118 x119 x120 x121 G) Q) :
    ∀ x0 x10 x11 x12 x13 x14 x15 x16 x17 x18 x19 x20 x21 x22 x23 x24 x25 x26 x58 x59 x74 x75 x78 x79 x80 x81 x82 x83 x84 x85 x86 x91 x92 x93 x94 x95 x96 x97 x98 x99 x100 x101 x102 x103 x104 x105 x106 x107 x108 x109 x110 x111 x112 x113 x114 x115 x116 x117 x118 x119 x120 x121, Ev (f23_l6b (C (k + 4)) k' sg x0 (.pointer (some ⟨b1, 0, none⟩)) (.pointer (some ⟨b2, 0, none⟩)) (.func (.func 30) #[] #[.pointer (some ⟨b1, 0, none⟩)]) x10 x11 x12 x13 x14 x15 x16 x17 x18 x19 x20 x21 x22 x23 x24 x25 x26 x58 x59 x74 x75 x78 x79 x80 x81 x82 x83 x84 x85 x86 x91 x92 x93 x94 x95 x96 x97 x98 x99 x100 x101 x102 x103 x104 x105 x106 x107 x108 x109 x110 x111 x112 x113 x114 x115 x116 x117 x118 x119 x120 x121 H) Q := by
  intro x0 x10 x11 x12 x13 x14 x15 x16 x17 x18 x19 x20 x21 x22 x23 x24 x25 x26 x58 x59 x74 x75 x78 x79 x80 x81 x82 x83 x84 x85 x86 x91 x92 x93 x94 x95 x96 x97 x98 x99 x100 x101 x102 x103 x104 x105 x106 x107 x108 x109 x110 x111 x112 x113 x114 x115 x116 x117 x118 x119 x120 x121
  unfold f23_l6b
  have hlen := blkH_len p
  have hbl := blk_len p
  have l1 : gLoad Tryd.prog 24 (.pointer (some ⟨b1, 0, none⟩)) H = some w := ldc hI.g1 ld24 rfl
  have hlr : (blk p ++ rest).length = 3 * p.length + 3 + rest.length := by rw [List.length_append, hbl]
  obtain ⟨q0, i1, i2⟩ := bt_at hI.hw.slr (k := .i64) (i := 0) (by omega)
  have i1 : oIndexAddr Tryd.prog 24 w (.int .i64 0) = some q0 := i1
  have e0 : (blk p ++ rest)[0]'(by omega) = p.length := rfl
  rw [e0] at i2
  have e1 : IntKind.wrap .i64 (p.length : Int) = (p.length : Int) := Go.IntWalk.i64_in _ (by omega)
  simp only [l1, onV_n, hI.hw.slr.oLen u24, bin_gtr, asB_b, onBool_d]
  rw [if_pos (by omega)]
  simp only [l1, onV_n, i1, i2.load1 ld5, bv8, conv5_3, e1]
  unfold f23_r8
  have e2 : IntKind.wrap .i64 ((p.length : Int) * 3) = ((p.length * 3 : Nat) : Int) := by rw [Go.IntWalk.i64_in _ (by omega)]; omega
  have e3 : IntKind.wrap .i64 (1 + ((p.length * 3 : Nat) : Int)) = ((1 + p.length * 3 : Nat) : Int) := by rw [Go.IntWalk.i64_in _ (by omega)]; omega
  simp only [bin_mul, e2, bin_add, e3, onV_n]
  refine Ev.call0 (next_ok (k := k + 3) hI.g1 hI.hw (n := 1 + p.length * 3) (by omega)) fun u H2 hu => ?_
  obtain ⟨l, w2, r1, r2, r3, r4⟩ := hu
  have hu1 : u = .tuple #[l, .bool true] := r1
  have hu2 : H2 = H.set b1 (.row [w2] 24 false) := r2
  have hu3 : Sc tyB 5 H2 l ((blk p ++ rest).take (1 + p.length * 3)) := r3
  have hu4 : Sc tyB 5 H2 w2 ((blk p ++ rest).drop (1 + p.length * 3)) := r4
  clear r1 r2 r3 r4
  have t1 : (blk p ++ rest).take (1 + p.length * 3) = blkH p := by
    unfold blk
    rw [List.append_assoc]
    exact List.take_left' (by omega)
  have t2 : (blk p ++ rest).drop (1 + p.length * 3) = [crc (blkH p) / 256, crc (blkH p) % 256] ++ rest := by
    unfold blk
    rw [List.append_assoc]
    exact List.drop_left' (by omega)
  rw [t1] at hu3
  rw [t2] at hu4
  subst hu1
  have hlt1 := GH.get_lt hI.g1
  have hne : b1 ≠ b2 := fun hh => by
    have h1 := hI.g1
    rw [hh, hI.g2] at h1
    have h2 := Option.some.inj h1
    injection h2 with _ h6 _
    exact absurd h6 (by decide)
  have hI2 : RdI H0 H2 b1 b2 w2 wo ([crc (blkH p) / 256, crc (blkH p) % 256] ++ rest) done := by
    subst hu2
    exact ⟨hI.e.set hb1 hlt1 _, GH.get_set_same hI.g1, hu4, (GH.get_set_other hne hlt1).trans hI.g2, ownSet hI.g1 (by decide) hI.ho⟩
  clear hu2
  have x00 : ∀ a b : Value, oExtract (.tuple #[a, b]) 0 = some a := fun _ _ => rfl
  have x01 : ∀ a b : Value, oExtract (.tuple #[a, b]) 1 = some b := fun _ _ => rfl
  simp only [x00, x01, onV_n]
  refine Ev.call0 (next_ok (k := k + 3) hI2.g1 hI2.hw (n := 2) (by simp)) fun u H3 hu => ?_
  obtain ⟨sm, w3, r1, r2, r3, r4⟩ := hu
  have hv1 : u = .tuple #[sm, .bool true] := r1
  have hv2 : H3 = H2.set b1 (.row [w3] 24 false) := r2
  have hv3 : Sc tyB 5 H3 sm [crc (blkH p) / 256, crc (blkH p) % 256] := r3
  have hv4 : Sc tyB 5 H3 w3 rest := r4
  clear r1 r2 r3 r4
  subst hv1
  have hlt2 := GH.get_lt hI2.g1
  have hu5 : Sc tyB 5 H3 l (blkH p) := by rw [hv2]; exact scSet flat_b hI2.g1 (by decide) hu3
  have hI3 : RdI H0 H3 b1 b2 w3 wo rest done := by
    subst hv2
    exact ⟨hI2.e.set hb1 hlt2 _, GH.get_set_same hI2.g1, hv4, (GH.get_set_other hne hlt2).trans hI2.g2, ownSet hI2.g1 (by decide) hI2.ho⟩
  clear hv2
  simp only [x00, x01, onV_n]
  unfold f23_r10 f23_g10_3 f23_g10_7
  simp only [bin_gtr, onV_n, asB_b, onBool_d]
  rw [if_neg (by omega)]
  simp only [not_b, onV_n, asB_b, onBool_i, Bool.not_true, Bool.false_eq_true, if_false]
  unfold f23_r13
  have hc := crc_lt _ (blkH_lt hok hp)
  refine Ev.call 2 (R := fun v _ => v = .int .u16 ((crc (blkH p) : Nat) : Int)) (Sp.of (fun lo => (check16_ok (k := k + 3) (by omega) (hu5.slr.lo gets_b) (blkH_lt hok hp) (by omega) (by omega)).mono fun z hz => by subst hz; exact ⟨.refl _, rfl⟩) (fun _ _ _ h => h)) fun u H4 hE4 hu => ?_
  have hu : u = .int .u16 ((crc (blkH p) : Nat) : Int) := hu
  subst hu
  obtain ⟨qa, a1, a2⟩ := bt_at (hv3.slr.mono hE4) (k := .i64) (i := 0) (by simp)
  obtain ⟨qb, c1, c2⟩ := bt_at (hv3.slr.mono hE4) (k := .i64) (i := 1) (by simp)
  have a1 : oIndexAddr Tryd.prog 24 sm (.int .i64 0) = some qa := a1
  have c1 : oIndexAddr Tryd.prog 24 sm (.int .i64 1) = some qb := c1
  have a2 : PtC H4 qa [bv8 (crc (blkH p) / 256)] := a2
  have c2 : PtC H4 qb [bv8 (crc (blkH p) % 256)] := c2
  have w1 : IntKind.wrap .u16 ((crc (blkH p) / 256 : Nat) : Int) = ((crc (blkH p) / 256 : Nat) : Int) := Go.IntWalk.u16_in _ (by omega)
  have w2' : IntKind.wrap .u16 (((crc (blkH p) / 256 : Nat) : Int) * 256) = ((crc (blkH p) / 256 * 256 : Nat) : Int) := by rw [Go.IntWalk.u16_in _ (by omega)]; omega
  have w4 : IntKind.wrap .u16 ((crc (blkH p) % 256 : Nat) : Int) = ((crc (blkH p) % 256 : Nat) : Int) := Go.IntWalk.u16_in _ (by omega)
  have w5 : IntKind.wrap .u16 (((crc (blkH p) / 256 * 256 : Nat) : Int) + ((crc (blkH p) % 256 : Nat) : Int)) = ((crc (blkH p) : Nat) : Int) := by rw [Go.IntWalk.u16_in _ (by omega)]; omega
  simp only [a1, onV_n, a2.load1 ld5, c1, c2.load1 ld5, conv5_40', w1, shl8, w2', w4, bin_add, w5, bin_neq, asB_b, onBool_d]
  rw [if_neg (fun h => h rfl)]
  simp only [bin_eql, onV_n, asB_b, onBool_d]
  have hI4 := hI3.ext hE4
  by_cases hp0 : p = []
  · obtain ⟨hr, hQ⟩ := h0 hp0
    subst hr
    rw [if_pos (by subst hp0; rfl)]
    exact (rd_17 hb2 hI4).mono hQ
  · rw [if_neg (by have := List.length_pos_iff.2 hp0; omega)]
    exact rd_22 (k := k) hk hb2 rfl hl hp hok hI4 (hu5.mono hE4) (fun x0 x10 x11 x12 x13 x14 x15 x16 x17 x18 x19 x20 x21 x22 x23 x24 x25 x26 x58 x59 x74 x75 x78 x79 x80 x81 x82 x83 x84 x85 x86 x91 x92 x93 x94 x95 x96 x97 x98 x99 x100 x101 x102 x103 x104 x105 x106 x107 x108 x109 x110 x111 x112 x113 x114 x115 x116 x117 x118 x119 x120 x121 G wo' hG => hsg hp0 _ _ _ _ _ _ _ _ _ _ _ _ _ _ _ _ _ _ _ _ _ _ _ _ _ _ _ _ _ _ _ _ _ _ _ _ _ _ _ _ _ _ _ _ _ _ _ _ _ _ _ _ _ _ _ _ _ _ _ _ _ _ G _ wo' hG) _ _ _ _ _ _ _ _ _ _ _ _ _ _ _ _ _ _ _ _ _ _ _ _ _ _ _ _ _ _ _ _ _ _ _ _ _ _ _ _ _ _ _ _ _ _ _ _ _ _ _ _ _ _ _ _ _ _ _ _ _ _ _ _ _ _ _ _ _ _ _ _ _ _ _ _ _ _ _ _ _ _ _ _ _ _ _ _ _ _ _ _ _ _ _ _ _ _ _ _ _ _ _ _ _ _ _ _ _ _ _ _ _ _ _ _ _ rfl rfl rfl rfl rfl
theorem rd_l6 {k k' b1 b2 : Nat} {H0 : GH} {fin : Bool} (hk : 1000 ≤ k) (hb1 : H0.n ≤ b1) (hb2 : H0.n ≤ b2) :
    ∀ (bs : List (List OpD)) (r : Nat) (H : GH) (w wo : Value) (done : List OpD), bs.length + 2 ≤ r → (∀ p ∈ bs, 1 ≤ p.length ∧ p.length ≤ 32 ∧ ∀ o ∈ p, OpOk o) → done.length + bs.flatten.length ≤ 4096 → RdI H0 H b1 b2 w wo (bs.flatMap blk ++ tail fin) done →
    ∀ x0 x10 x11 x12 x13 x14 x15 x16 x17 x18 x19 x20 x21 x22 x23 x24 x25 x26 x58 x59 x74 x75 x78 x79 x80 x81 x82 x83 x84 x85 x86 x91 x92 x93 x94 x95 x96 x97 x98 x99 x100 x101 x102 x103 x104 x105 x106 x107 x108 x109 x110 x111 x112 x113 x114 x115 x116 x117 x118 x119 x120 x121, Ev (f23_l6 (C (k + 4)) k' r x0 (.pointer (some ⟨b1, 0, none⟩)) (.pointer (some ⟨b2, 0, none⟩)) (.func (.func 30) #[] #[.pointer (some ⟨b1, 0, none⟩)]) x10 x11 x12 x13 x14 x15 x16 x17 x18 x19 x20 x21 x22 x23 x24 x25 x26 x58 x59 x74 x75 x78 x79 x80 x81 x82 x83 x84 x85 x86 x91 x92 x93 x94 x95 x96 x97 x98 x99 x100 x101 x102 x103 x104 x105 x106 x107 x108 x109 x110 x111 x112 x113 x114 x115 x116 x117 x118 x119 x120 x121 H) (RdQ H0 b2 fin (done ++ bs.flatten)) := by
  intro bs
  induction bs with
  | nil =>
    intro r H w wo done hr hbs hl hI x0 x10 x11 x12 x13 x14 x15 x16 x17 x18 x19 x20 x21 x22 x23 x24 x25 x26 x58 x59 x74 x75 x78 x79 x80 x81 x82 x83 x84 x85 x86 x91 x92 x93 x94 x95 x96 x97 x98 x99 x100 x101 x102 x103 x104 x105 x106 x107 x108 x109 x110 x111 x112 x113 x114 x115 x116 x117 x118 x119 x120 x121
    obtain ⟨r, rfl⟩ : ∃ m, r = m + 1 := ⟨r - 1, by omega⟩
    rw [List.flatten_nil, List.append_nil]
    show Ev (f23_l6b (C (k + 4)) k' (f23_l6 (C (k + 4)) k' r) x0 (.pointer (some ⟨b1, 0, none⟩)) (.pointer (some ⟨b2, 0, none⟩)) (.func (.func 30) #[] #[.pointer (some ⟨b1, 0, none⟩)]) x10 x11 x12 x13 x14 x15 x16 x17 x18 x19 x20 x21 x22 x23 x24 x25 x26 x58 x59 x74 x75 x78 x79 x80 x81 x82 x83 x84 x85 x86 x91 x92 x93 x94 x95 x96 x97 x98 x99 x100 x101 x102 x103 x104 x105 x106 x107 x108 x109 x110 x111 x112 x113 x114 x115 x116 x117 x118 x119 x120 x121 H) _
    cases fin with
    | true => exact rd_6 (rest := []) hk hb1 hb2 (p := []) (by simp at hl ⊢; omega) (by simp) (fun o h => by cases h) (by rw [List.append_nil]; exact hI) (fun _ => ⟨rfl, fun r h => h⟩) (fun h => absurd rfl h) _ _ _ _ _ _ _ _ _ _ _ _ _ _ _ _ _ _ _ _ _ _ _ _ _ _ _ _ _ _ _ _ _ _ _ _ _ _ _ _ _ _ _ _ _ _ _ _ _ _ _ _ _ _ _ _ _ _ _ _ _ _
    | false =>
      unfold f23_l6b
      have hI : RdI H0 H b1 b2 w wo [] done := hI
      have l1 : gLoad Tryd.prog 24 (.pointer (some ⟨b1, 0, none⟩)) H = some w := ldc hI.g1 ld24 rfl
      simp only [l1, onV_n, hI.hw.slr.oLen u24, bin_gtr, asB_b, onBool_d]
      rw [if_neg (by decide)]
      exact rd_33 hb2 hI
  | cons p bs ih =>
    intro r H w wo done hr hbs hl hI x0 x10 x11 x12 x13 x14 x15 x16 x17 x18 x19 x20 x21 x22 x23 x24 x25 x26 x58 x59 x74 x75 x78 x79 x80 x81 x82 x83 x84 x85 x86 x91 x92 x93 x94 x95 x96 x97 x98 x99 x100 x101 x102 x103 x104 x105 x106 x107 x108 x109 x110 x111 x112 x113 x114 x115 x116 x117 x118 x119 x120 x121
    obtain ⟨r, rfl⟩ : ∃ m, r = m + 1 := ⟨r - 1, by omega⟩
    show Ev (f23_l6b (C (k + 4)) k' (f23_l6 (C (k + 4)) k' r) x0 (.pointer (some ⟨b1, 0, none⟩)) (.pointer (some ⟨b2, 0, none⟩)) (.func (.func 30) #[] #[.pointer (some ⟨b1, 0, none⟩)]) x10 x11 x12 x13 x14 x15 x16 x17 x18 x19 x20 x21 x22 x23 x24 x25 x26 x58 x59 x74 x75 x78 x79 x80 x81 x82 x83 x84 x85 x86 x91 x92 x93 x94 x95 x96 x97 x98 x99 x100 x101 x102 x103 x104 x105 x106 x107 x108 x109 x110 x111 x112 x113 x114 x115 x116 x117 x118 x119 x120 x121 H) _
    obtain ⟨hp1, hp2, hp3⟩ := hbs p List.mem_cons_self
    have hfl : (p :: bs).flatten.length = p.length + bs.flatten.length := by rw [List.flatten_cons, List.length_append]
    rw [List.length_cons] at hr
    refine rd_6 (done := done) (rest := bs.flatMap blk ++ tail fin) hk hb1 hb2 (p := p) (by omega) hp2 hp3 (by rw [← List.append_assoc]; exact hI) (fun h => by subst h; simp at hp1) (fun _ x0 x10 x11 x12 x13 x14 x15 x16 x17 x18 x19 x20 x21 x22 x23 x24 x25 x26 x58 x59 x74 x75 x78 x79 x80 x81 x82 x83 x84 x85 x86 x91 x92 x93 x94 x95 x96 x97 x98 x99 x100 x101 x102 x103 x104 x105 x106 x107 x108 x109 x110 x111 x112 x113 x114 x115 x116 x117 x118 x119 x120 x121 G w' wo' hG => ?_) _ _ _ _ _ _ _ _ _ _ _ _ _ _ _ _ _ _ _ _ _ _ _ _ _ _ _ _ _ _ _ _ _ _ _ _ _ _ _ _ _ _ _ _ _ _ _ _ _ _ _ _ _ _ _ _ _ _ _ _ _ _
    have := ih r G w' wo' (done ++ p) (by omega) (fun q hq => hbs q (List.mem_cons_of_mem _ hq)) (by rw [List.length_append]; omega) hG x0 x10 x11 x12 x13 x14 x15 x16 x17 x18 x19 x20 x21 x22 x23 x24 x25 x26 x58 x59 x74 x75 x78 x79 x80 x81 x82 x83 x84 x85 x86 x91 x92 x93 x94 x95 x96 x97 x98 x99 x100 x101 x102 x103 x104 x105 x106 x107 x108 x109 x110 x111 x112 x113 x114 x115 x116 x117 x118 x119 x120 x121
    rw [List.append_assoc] at this
    exact this
/-- The bytes of a tape. -/
def tapeB (bs : List (List OpD)) (fin : Bool) : List Nat := [71, 84, 1, 0] ++ (bs.flatMap blk ++ tail fin)
theorem slStart : oSlice Tryd.prog 60 (.pointer (some ⟨0, 0, none⟩)) none none none = some (.slice (some ⟨0, 0, none⟩) 4 4) := by kernel_rfl
theorem start_sl {H : GH} (hg : GlIn H) : SlR tyB H (.slice (some ⟨0, 0, none⟩) 4 4) [71, 84, 1, 0] :=
  .inr ⟨0, 0, 4, glRow 0, 5, true, [71, 84, 1, 0].map bv8, rfl, hg 0 rfl, by decide, rfl, cellsB _⟩
/-- A tape is read. -/
theorem read_ok {k : Nat} {H : GH} {v : Value} {bs : List (List OpD)} {fin : Bool} (hk : 1000 ≤ k) (hg : GlIn H) (hn : bs.length + 2 ≤ k) (hs : Sc tyB 5 H v (tapeB bs fin)) (hbs : ∀ p ∈ bs, 1 ≤ p.length ∧ p.length ≤ 32 ∧ ∀ o ∈ p, OpOk o) (hl : bs.flatten.length ≤ 4096) :
    Ev (C (k + 5) (.func (.func 23) #[] #[]) [v] H) (RdQ H (H.n + 1) fin bs.flatten) := by
  rw [C_func T23, f23_eq]
  unfold f23_sh
  obtain ⟨c1, c2, c3⟩ := hs.slr.cell
  rw [c3]
  have hn1 : (GH.push H (.row [v] 24 false)).n = H.n + 1 := rfl
  rw [hn1]
  have hE1 := (Ext.push H (.row [v] 24 false)).push' (.row [(.slice none 0 0), (.bool false), (.bool false), (.int .i64 0)] 55 false)
  have g1 : (GH.push (GH.push H (.row [v] 24 false)) (.row [(.slice none 0 0), (.bool false), (.bool false), (.int .i64 0)] 55 false)).get H.n = some (.row [v] 24 false) := (GH.get_push_old (Nat.lt_succ_self _)).trans GH.get_push_new
  have g2 : (GH.push (GH.push H (.row [v] 24 false)) (.row [(.slice none 0 0), (.bool false), (.bool false), (.int .i64 0)] 55 false)).get (H.n + 1) = some (.row [(.slice none 0 0), (.bool false), (.bool false), (.int .i64 0)] 55 false) := GH.get_push_new
  revert hE1 g1 g2
  generalize GH.push (GH.push H (.row [v] 24 false)) (.row [(.slice none 0 0), (.bool false), (.bool false), (.int .i64 0)] 55 false) = H1
  intro hE1 g1 g2
  have l1 : ∀ G, Ext H1 G → gLoad Tryd.prog 24 (.pointer (some ⟨H.n, 0, none⟩)) G = some v := fun G hG => ldc (hG.get_of g1) ld24 rfl
  have hlen : (tapeB bs fin).length = 4 + (bs.flatMap blk ++ tail fin).length := by unfold tapeB; rw [List.length_append]; rfl
  have hs1 := hs.mono hE1
  simp only [l1 _ (.refl _), onV_n, hs1.slr.oLen u24, bin_lss]
  unfold f23_g1_4
  simp only [asB_b, onBool_d]
  rw [if_neg (by omega)]
  obtain ⟨v2, s1, s2⟩ := hs1.to (P := Tryd.prog) (t := 24) (m := 4) u24 (elemOk_size el5) (by omega) (k := .i64)
  have s1 : oSlice Tryd.prog 24 v none (some (.int .i64 4)) none = some v2 := s1
  have s2 : Sc tyB 5 H1 v2 [71, 84, 1, 0] := s2
  have hst := start_sl (GlIn.ext hg hE1)
  simp only [l1 _ (.refl _), onV_n, s1, slStart]
  refine Ev.call 1 (R := fun v _ => v = .bool true) (Sp.of (fun lo => (equal_ok (k := k + 3) (s2.slr.lo gets_b) (hst.lo gets_b) (by simp; omega) (by simp)).mono fun z hz => by subst hz; exact ⟨.refl _, rfl⟩) (fun _ _ _ h => h)) fun u H2 hE2 hu => ?_
  have hu : u = .bool true := hu
  subst hu
  obtain ⟨v3, s3, s4⟩ := (hs1.mono hE2).from (P := Tryd.prog) (t := 24) (i := 4) u24 (elemOk_size el5) (by omega) (k := .i64)
  have s3 : oSlice Tryd.prog 24 v (some (.int .i64 4)) none none = some v3 := s3
  have s4 : Sc tyB 5 H2 v3 (bs.flatMap blk ++ tail fin) := s4
  obtain ⟨q1, q2, q3⟩ := s4.slr.cell
  have g1' := hE2.get_of g1
  have hst2 := store1 (P := Tryd.prog) (t := 24) (o := 0) (v := v3) g1' (gSize_ld ld24) q3 (by rw [q3] at q2; simpa using q2) (by simp)
  simp only [not_b, onV_n, asB_b, onBool_i, Bool.not_true, Bool.false_eq_true, if_false, l1 _ hE2, s3, hst2, onH_s]
  have hlt := GH.get_lt g1'
  refine rd_l6 (H0 := H) hk (Nat.le_refl _) (Nat.le_succ _) bs (k + 4) _ v3 (.slice none 0 0) [] (by omega) hbs (by rw [List.length_nil, Nat.zero_add]; exact hl) ⟨(hE1.trans hE2).set (Nat.le_refl _) hlt _, GH.get_set_same g1', scSet flat_b g1' (by decide) s4, (GH.get_set_other (by omega) hlt).trans (hE2.get_of g2), Own.nil⟩ _ _ _ _ _ _ _ _ _ _ _ _ _ _ _ _ _ _ _ _ _ _ _ _ _ _ _ _ _ _ _ _ _ _ _ _ _ _ _ _ _ _ _ _ _ _ _ _ _ _ _ _ _ _ _ _ _ _ _ _ _ _
end Go.Proofs.YtdhadannleldiaaDoor
