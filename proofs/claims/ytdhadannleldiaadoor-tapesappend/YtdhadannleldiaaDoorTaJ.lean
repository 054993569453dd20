/- Tapes: a tape is opened; blocks are put behind it. -/
import Derived.Test.YtdhadannleldiaaDoorTaH
import Derived.Test.YtdhadannleldiaaDoorGnData
namespace Go.Proofs.YtdhadannleldiaaDoor
open Go.Gh
set_option linter.unusedVariables false
set_option linter.unusedSimpArgs false

theorem gResL2 {t : TypeId} {p v u : Value} {H : GH} (h : gLoad Tryd.prog t p H = some u) : gResL Tryd.prog H [(p, some t), (v, none)] = some (.tuple #[u, v]) := by
  unfold gResL
  simp only [List.mapM_cons, List.mapM_nil, gRes1, h]
  rfl
/-- A tape, or none at all. -/
def Tp (H : GH) (v : Value) (bs : List (List OpD)) (fin : Bool) : Prop := (v = .slice none 0 0 ∧ bs = [] ∧ fin = false) ∨ Sc tyB 5 H v (tapeB bs fin)
def BsOk (bs : List (List OpD)) : Prop := (∀ p ∈ bs, 1 ≤ p.length ∧ p.length ≤ 32 ∧ ∀ o ∈ p, OpOk o) ∧ bs.flatten.length ≤ 4096
theorem Tp.mono {H H' : GH} {v : Value} {bs : List (List OpD)} {fin : Bool} (hE : Ext H H') (h : Tp H v bs fin) : Tp H' v bs fin := h.imp id (·.mono hE)
theorem tape_len (bs : List (List OpD)) (fin : Bool) : 4 ≤ (tapeB bs fin).length := by unfold tapeB; rw [List.length_append]; simp
def tRow (w : Value) (p q : Bool) (e : Int) : List Value := [w, .bool p, .bool q, .int .i64 e]
theorem st55 {H : GH} {b : Nat} {row : List Value} {w : Value} {p q : Bool} {e : Int} (g : H.get b = some (.row row 55 false)) (hr : row.length = 4) (h1 : oneC w = true) :
    gStore Tryd.prog 55 (.pointer (some ⟨b, 0, none⟩)) (.agg #[w, .bool p, .bool q, .int .i64 e]) H = some (H.set b (.row (tRow w p q e) 55 false)) :=
  storeAll (P := Tryd.prog) (t := 55) (sz := 4) (v := .agg #[w, .bool p, .bool q, .int .i64 e]) (cs := tRow w p q e) g (gSize_ld ld55) hr rfl rfl (by unfold tRow; simp only [List.all_cons, h1]; rfl)
theorem l55 {H : GH} {b : Nat} {w : Value} {p q : Bool} {e : Int} (g : H.get b = some (.row (tRow w p q e) 55 false)) : gLoad Tryd.prog 55 (.pointer (some ⟨b, 0, none⟩)) H = some (.agg #[w, .bool p, .bool q, .int .i64 e]) := (PtC.of g).loadA ld55
theorem box55 {H : GH} {w : Value} {p q : Bool} {e : Int} (h1 : oneC w = true) : ∃ H', gStore Tryd.prog 55 (.pointer (some ⟨H.n, 0, none⟩)) (.agg #[w, .bool p, .bool q, .int .i64 e]) (H.push (.row [(.slice none 0 0), (.bool false), (.bool false), (.int .i64 0)] 55 false)) = some H' ∧ Ext H H' ∧ H'.get H.n = some (.row (tRow w p q e) 55 false) ∧ H'.n = H.n + 1 :=
  box (P := Tryd.prog) (t := 55) (H := H) (v := .agg #[w, .bool p, .bool q, .int .i64 e]) (cs := tRow w p q e) (row := [(.slice none 0 0), (.bool false), (.bool false), (.int .i64 0)]) (e := 55) (gSize_ld ld55) rfl rfl (by unfold tRow; simp only [List.all_cons, h1]; rfl)
theorem sl_one {α : Type} {A : Ty α} {H : GH} {v : Value} {xs : List α} (h : SlR A H v xs) : oneC v = true := by
  obtain ⟨s1, s2, s3⟩ := h.cell
  rw [s3] at s2
  simpa using s2
theorem ownOld {α : Type} {A : Ty α} {e : TypeId} {H0 H1 H : GH} {v : Value} {xs : List α} (hA : A.Flat) (hn : H0.n ≤ H1.n) (h : Own A e H1 H v xs) : Own A e H0 H v xs := by
  rcases h with h | ⟨b, cs, h1, h2, h3, h4⟩
  · exact .inl h
  · exact .inr ⟨b, cs, h1, Nat.le_trans hn h2, h3, h4.flat hA⟩
/-- What opening comes to. -/
def OpQ (H : GH) (bs : List (List OpD)) (fin : Bool) (r : Value × GH) : Prop := Ext H r.2 ∧ ∃ w, r.1 = .tuple #[.agg #[w, .bool (!fin), .bool false, .int .i64 0], .int .i64 (if fin then 6 else 0)] ∧ SlR tyOp r.2 w (if fin then [] else bs.flatten)
theorem opened_ok {k : Nat} {H : GH} {v : Value} {bs : List (List OpD)} {fin : Bool} (hk : 1000 ≤ k) (hg : GlIn H) (hn : bs.length + 2 ≤ k) (hs : Tp H v bs fin) (hbs : BsOk bs) : Ev (C (k + 6) (.func (.func 16) #[] #[]) [v] H) (OpQ H bs fin) := by
  rw [C_func T16, f16_eq]
  unfold f16_sh
  have hE1 := Ext.push H (.row [(.slice none 0 0), (.bool false), (.bool false), (.int .i64 0)] 55 false)
  have g1 : (H.push (.row [(.slice none 0 0), (.bool false), (.bool false), (.int .i64 0)] 55 false)).get H.n = some (.row [(.slice none 0 0), (.bool false), (.bool false), (.int .i64 0)] 55 false) := GH.get_push_new
  revert hE1 g1
  generalize H.push (.row [(.slice none 0 0), (.bool false), (.bool false), (.int .i64 0)] 55 false) = H1
  intro hE1 g1
  have hlt1 := GH.get_lt g1
  rcases hs with ⟨rfl, rfl, rfl⟩ | hs
  · have ho : oLen Tryd.prog 24 (.slice none 0 0) = some (.int .i64 (0 : Nat)) := by unfold oLen; rw [u24]
    have hst := st55 (w := .slice none 0 0) (p := true) (q := false) (e := 0) g1 rfl rfl
    simp only [ho, onV_n, bin_eql, asB_b, onBool_d]
    rw [if_pos (by decide)]
    simp only [hst, onH_s, gResL2 (l55 (GH.get_set_same g1)), onV_n]
    exact Ev.mk ⟨hE1.set (Nat.le_refl _) hlt1 _, _, rfl, .nil⟩
  · have hl := tape_len bs fin
    simp only [hs.slr.oLen u24, onV_n, bin_eql, asB_b, onBool_d]
    rw [if_neg (by omega)]
    refine Ev.call0 (read_ok (k := k) hk (GlIn.ext hg hE1) hn (hs.mono hE1) hbs.1 hbs.2) fun u H2 hu => ?_
    obtain ⟨q1, w, q2, q3⟩ := hu
    have hE2 : Ext H1 H2 := q1
    have hu1 : u = .agg #[w, .bool (!fin), .bool fin, .int .i64 0] := q2
    have hu3 : Own tyOp 48 H1 H2 w bs.flatten := q3
    have hu2 : SlR tyOp H2 w bs.flatten := hu3.slr hE2
    clear q1 q2 q3
    subst hu1
    obtain ⟨H3, f1, f2, f3, f4⟩ := box55 (H := H2) (p := !fin) (q := fin) (e := 0) (sl_one hu2)
    have l2 : gLoad Tryd.prog 4 (.pointer (some ⟨H2.n, 2, none⟩)) H3 = some (.bool fin) := ldc f3 ld4 rfl
    have g1' := (hE2.trans f2).get_of g1
    have hlt3 := GH.get_lt g1'
    have hE3 := (hE1.trans hE2).trans f2
    simp only [f1, onH_s, l2, onV_n, asB_b, onBool_i]
    cases fin with
    | true =>
      rw [if_pos rfl]
      have hst := st55 (w := .slice none 0 0) (p := false) (q := false) (e := 0) g1' rfl rfl
      simp only [hst, onH_s, gResL2 (l55 (GH.get_set_same g1')), onV_n]
      exact Ev.mk ⟨hE3.set (Nat.le_refl _) hlt3 _, _, rfl, .nil⟩
    | false =>
      rw [if_neg (by decide)]
      unfold f16_r6
      have hst := st55 (w := w) (p := !false) (q := false) (e := 0) g1' rfl (sl_one hu2)
      have l3 : gLoad Tryd.prog 28 (.pointer (some ⟨H2.n, 3, none⟩)) H3 = some (.int .i64 0) := ldc f3 ld28 rfl
      have f3' := (GH.get_set_other (o := .row (tRow w (!false) false 0) 55 false) (show H.n ≠ H2.n by have := hE2.n; omega) hlt3).trans f3
      have l4 : gLoad Tryd.prog 28 (.pointer (some ⟨H2.n, 3, none⟩)) (H3.set H.n (.row (tRow w (!false) false 0) 55 false)) = some (.int .i64 0) := ldc f3' ld28 rfl
      simp only [l55 f3, onV_n, fa55_3, l3, onClosed_i, hst, onH_s, l4, onSame_i, gResL2 (l55 (GH.get_set_same g1'))]
      exact Ev.mk ⟨hE3.set (Nat.le_refl _) hlt3 _, _, rfl, (ownSet g1' (by decide) (ownOld flat_op hE1.n (Own.extO f2 hu3))).slr (hE3.set (Nat.le_refl _) hlt3 _)⟩

/-! ### Append -/
theorem pieces_flat {α : Type} {c : Nat} (hc : 0 < c) : ∀ (n : Nat) (l : List α), l.length ≤ n → (pieces c l).flatten = l
  | 0, l, h => by
    have : l = [] := List.length_eq_zero_iff.1 (by omega)
    subst this; rfl
  | n + 1, l, h => by
    rcases Nat.eq_zero_or_pos l.length with h0 | h0
    · have : l = [] := List.length_eq_zero_iff.1 h0
      subst this; rfl
    · rw [pieces_cons hc h0, List.flatten_cons, pieces_flat hc n _ (by rw [List.length_drop]; omega), List.take_append_drop]
theorem blks_len : ∀ bs : List (List OpD), (bs.flatMap blk).length = 3 * bs.flatten.length + 3 * bs.length
  | [] => rfl
  | b :: bs => by rw [List.flatMap_cons, List.length_append, blk_len, blks_len bs, List.flatten_cons, List.length_append, List.length_cons]; omega
theorem many_le : ∀ bs : List (List OpD), (∀ p ∈ bs, 1 ≤ p.length) → bs.length ≤ bs.flatten.length
  | [], _ => Nat.le_refl _
  | b :: bs, h => by
    have := many_le bs fun p hp => h p (List.mem_cons_of_mem _ hp)
    have := h b List.mem_cons_self
    rw [List.flatten_cons, List.length_append, List.length_cons]; omega
noncomputable def apA : Code := fAt Tryd.f6 [1,1,1,1,1,1,1,0,1,0,0]
noncomputable def apB : Code := fAt Tryd.f6 [1,1,1,1,1,1,1,0,1,0,1]
/-- What stands while blocks are put behind a tape. -/
structure AI (H0 : GH) (L b9 bc bn : Nat) (tm : List Value) (cv : Value) (xs : List Nat) (D : List (List OpD)) (H : GH) : Prop where
  e : Ext H0 H
  loop : H.get L = some (.loop .ready none tm [40] apA apB)
  box : ∃ w, H.get b9 = some (.row [w] 24 false) ∧ Cl tyB 5 H0 H w (xs ++ D.flatMap blk)
  c1 : H.get bc = some (.row [cv] 26 false)
  c2 : H.get bn = some (.row [.int .i64 32] 3 false)
theorem clSet {α : Type} {A : Ty α} {e b : Nat} {H0 H : GH} {v : Value} {xs : List α} {ob o : GObj} (hA : A.Flat) (hg : H.get b = some ob) (hne : ∀ row ro, ob ≠ .row row e ro) (h : Cl A e H0 H v xs) : Cl A e H0 (H.set b o) v xs := by
  rcases h with h | ⟨q, c, cs, h1, h2, h3, h4, h5⟩
  · exact .inl h
  · exact .inr ⟨q, c, cs, h1, h2, (GH.get_set_other (fun hh => by subst hh; rw [hg] at h3; exact hne _ _ (Option.some.inj h3)) (GH.get_lt hg)).trans h3, h4.flat hA, h5⟩
theorem rowNe {row : List Value} {e e' : Nat} {ro : Bool} (h : e' ≠ e) : ∀ (r2 : List Value) (ro2 : Bool), GObj.row row e' ro ≠ .row r2 e ro2 := fun r2 ro2 hh => by injection hh with _ h6 _; exact h h6
theorem cl_one {H0 H : GH} {v : Value} {xs : List Nat} (h : Cl tyB 5 H0 H v xs) : oneC v = true := sl_one h.slr
theorem ap_step {j L b9 bc bn : Nat} {tm : List Value} {cv : Value} {xs : List Nat} {l : List OpD} {H0 : GH} (hj : 100 ≤ j) (ho : ∀ o ∈ l, OpOk o) (hN : xs.length + ((pieces 32 l).flatMap blk).length ≤ 1000000) (htm : tm.length = 47) (h9 : tm[9]? = some (.pointer (some ⟨b9, 0, none⟩)))
    (hb9 : H0.n ≤ b9) (hL : H0.n ≤ L) (h9L : b9 ≠ L) (h9c : b9 ≠ bc) (h9n : b9 ≠ bn) (hLc : L ≠ bc) (hLn : L ≠ bn) {D : List (List OpD)} {q : List OpD} {H : GH} {w : Value} (hpre : D ++ [q] <+: pieces 32 l) (hI : AI H0 L b9 bc bn tm cv xs D H) (hw : Sc tyOp 48 H w q) :
    Ev (C (j + 3) (.func (.yield L) #[] #[]) [w] H) fun r => r.1 = .bool true ∧ AI H0 L b9 bc bn tm cv xs (D ++ [q]) r.2 := by
  have hqm : q ∈ pieces 32 l := hpre.subset (by simp)
  obtain ⟨hq1, hq2, hq3⟩ := pieces_mem (c := 32) (by decide) l.length l (Nat.le_refl _) q hqm
  have hqo : ∀ o ∈ q, OpOk o := fun o h => ho o (hq2 o h)
  have hN2 : xs.length + ((D ++ [q]).flatMap blk).length ≤ 1000000 := by
    obtain ⟨rest, hr⟩ := hpre
    rw [← hr, List.flatMap_append, List.length_append] at hN
    omega
  rw [List.flatMap_append, List.length_append, show ([q].flatMap blk) = blk q by simp] at hN2
  rw [C_yield hI.loop rfl]
  have e1 : gAssign [40] [w] tm = FF 47 (gf (tm.set 40 w)) := (FF_gf (show (tm.set 40 w).length = 47 by rw [List.length_set]; exact htm)).symm
  rw [e1]
  show Ev (g6 (C (j + 2)) (j + 2) [1,1,1,1,1,1,1,0,1,0,0] (FF 47 (gf (tm.set 40 w))) H (hBegin Tryd.prog (C (j + 2)) (j + 2) L (fAt Tryd.f6 [1,1,1,1,1,1,1,0,1,0,1]))) _
  rw [f6_R13_eq]
  have e9 : gf (tm.set 40 w) 9 = .pointer (some ⟨b9, 0, none⟩) := by
    unfold gf
    rw [List.getD_eq_getElem?_getD, List.getElem?_set_ne (by decide), h9]; rfl
  have e40 : gf (tm.set 40 w) 40 = w := by
    unfold gf
    rw [List.getD_eq_getElem?_getD, List.getElem?_set_self (by omega)]; rfl
  rw [e9, e40]
  unfold f6_R13
  rw [onReady_s hI.loop]
  have hLn' := GH.get_lt hI.loop
  have hE1 : Ext H0 (H.set L (.loop .busy none tm [40] apA apB)) := hI.e.set hL hLn' _
  have hL1 := GH.get_set_same (o := .loop .busy none tm [40] apA apB) hI.loop
  have hO1 : ∀ b, L ≠ b → (H.set L (.loop .busy none tm [40] apA apB)).get b = H.get b := fun b hb => GH.get_set_other hb hLn'
  obtain ⟨wv, hbox, hcl⟩ := hI.box
  have hcl1 : Cl tyB 5 H0 (H.set L (.loop .busy none tm [40] apA apB)) wv (xs ++ D.flatMap blk) := clSet flat_b hI.loop (fun _ _ h => by cases h) hcl
  revert hE1 hL1 hO1 hcl1
  generalize H.set L (.loop .busy none tm [40] apA apB) = G
  intro hE1 hL1 hO1 hcl1
  have hs1 : SlR tyOp G w q := hw.slr.rows flat_op fun b row e ro hb => hO1 b (by rintro rfl; rw [hI.loop] at hb; cases hb)
  have gb := (hO1 b9 (Ne.symm h9L)).trans hbox
  have gc := (hO1 bc hLc).trans hI.c1
  have gn := (hO1 bn hLn).trans hI.c2
  have l9 : gLoad Tryd.prog 24 (.pointer (some ⟨b9, 0, none⟩)) G = some wv := ldc gb ld24 rfl
  simp only [l9, onV_n]
  refine Ev.call 2 (R := fun v H' => Cl tyB 5 G H' v (blk q)) (Sp.of (fun lo => block_ok (k := j) hj (hs1.lo gets_op) hqo hq1) fun v H' lo' h => h.lo gets_b) fun u H4 hE4 hu => ?_
  have hu : Cl tyB 5 G H4 u (blk q) := hu
  obtain ⟨new, hf, hnc⟩ := hu.slr.first
  obtain ⟨w', H6, a1, a2, a3, a4⟩ := (hcl1.ext hE4).appG (P := Tryd.prog) (t := 24) (xt := 24) flat_b u24 u24 el5 (ys := blk q) hu.slr.val hf hnc (by rw [blk_len]; omega) (by rw [List.length_append]; omega) (hE1.trans hE4)
  have gb' := a4 _ _ (hE4.get_of gb) (rowNe (by decide))
  have hs9 := store1 (P := Tryd.prog) (t := 24) (o := 0) (v := w') gb' (gSize_ld ld24) (by obtain ⟨s1, s2, s3⟩ := a3.slr.cell; exact s3) (cl_one a3) (by simp)
  simp only [a1, onVH_s, hs9, onH_s]
  have e9' : (H6.set b9 (.row ([wv].set 0 w') 24 false)) = H6.set b9 (.row [w'] 24 false) := rfl
  have hlt9 := GH.get_lt gb'
  have kL := a4 _ _ (hE4.get_of hL1) (fun _ _ h => by cases h)
  have kL2 := (GH.get_set_other (o := .row [w'] 24 false) h9L hlt9).trans kL
  rw [e9', hRound_n kL2]
  have hltL := GH.get_lt kL2
  have kc := a4 _ _ (hE4.get_of gc) (rowNe (by decide))
  have kn := a4 _ _ (hE4.get_of gn) (rowNe (by decide))
  refine Ev.mk ⟨rfl, (a2.set hb9 hlt9 _).set hL hltL _, GH.get_set_same kL2, ⟨w', ?_, ?_⟩, ?_, ?_⟩
  · exact (GH.get_set_other (Ne.symm h9L) hltL).trans (GH.get_set_same gb')
  · have : (xs ++ (D ++ [q]).flatMap blk) = (xs ++ D.flatMap blk) ++ blk q := by rw [List.flatMap_append, List.append_assoc]; simp
    rw [this]
    exact clSet flat_b kL2 (fun _ _ h => by cases h) (clSet flat_b gb' (rowNe (by decide)) a3)
  · exact (GH.get_set_other hLc hltL).trans ((GH.get_set_other h9c hlt9).trans kc)
  · exact (GH.get_set_other hLn hltL).trans ((GH.get_set_other h9n hlt9).trans kn)
end Go.Proofs.YtdhadannleldiaaDoor
/- Tapes: Append, Finish, Decode, Salvage. -/
namespace Go.Proofs.YtdhadannleldiaaDoor
open Go.Gh
set_option linter.unusedVariables false
set_option linter.unusedSimpArgs false

theorem x0_ (a b : Value) : oExtract (.tuple #[a, b]) 0 = some a := rfl
theorem x1_ (a b : Value) : oExtract (.tuple #[a, b]) 1 = some b := rfl
theorem box24 {H : GH} {w : Value} {xs : List Nat} (h : SlR tyB H w xs) : ∃ H', gStore Tryd.prog 24 (.pointer (some ⟨H.n, 0, none⟩)) w (H.push (.row [(.slice none 0 0)] 24 false)) = some H' ∧ Ext H H' ∧ H'.get H.n = some (.row [w] 24 false) ∧ H'.n = H.n + 1 :=
  box (P := Tryd.prog) (t := 24) (H := H) (v := w) (cs := [w]) (row := [(.slice none 0 0)]) (e := 24) (gSize_ld ld24) h.cell.2.2 rfl (by simp only [List.all_cons, sl_one h]; rfl)
section
variable {k b9 : Nat} {H0 : GH} {x1 : Value} {l : List OpD} {xs : List Nat}
/-- What putting blocks behind comes to. -/
def ApQ (H0 : GH) (bytes : List Nat) (r : Value × GH) : Prop := Ext H0 r.2 ∧ ∃ u, r.1 = .tuple #[u, .int .i64 0] ∧ Cl tyB 5 H0 r.2 u bytes
theorem ap_12 {H : GH} {wv : Value} (hk : 1000 ≤ k) (hl : l.length < k) (hl' : l.length ≤ 4096) (ho : ∀ o ∈ l, OpOk o) (hx : xs.length ≤ 100000) (hb9 : H0.n ≤ b9) (hE : Ext H0 H) (g9 : H.get b9 = some (.row [wv] 24 false)) (hcl : Cl tyB 5 H0 H wv xs) (hs : Sc tyOp 48 H0 x1 l) :
    ∀ x0 x4 x5 x6 x7 x8 x11 x12 x13 x14 x15 x16 x17 x18 x19 x20 x21 x22 x23 x24 x25 x26 x27 x28 x29 x30 x31 x32 x33 x34 x35 x36 x37, Ev (f6_r12 (C (k + 6)) (k + 6) x0 x1 x4 x5 x6 x7 x8 (.pointer (some ⟨b9, 0, none⟩)) x11 x12 x13 x14 x15 x16 x17 x18 x19 x20 x21 x22 x23 x24 x25 x26 x27 x28 x29 x30 x31 x32 x33 x34 x35 x36 x37 H) (ApQ H0 (xs ++ (pieces 32 l).flatMap blk)) := by
  intro x0 x4 x5 x6 x7 x8 x11 x12 x13 x14 x15 x16 x17 x18 x19 x20 x21 x22 x23 x24 x25 x26 x27 x28 x29 x30 x31 x32 x33 x34 x35 x36 x37
  unfold f6_r12
  obtain ⟨a, c, rfl⟩ := hs.slr.val
  refine Ev.call0 (chunk_ok (k := k + 5) (H := H) (n := 32) (by omega)) fun u H3 hu => ?_
  injection hu with u1 u2
  subst u1
  have hE2 := (Ext.push H (.row [.slice a l.length c] 26 false)).push' (.row [.int .i64 ((32 : Nat) : Int)] 3 false)
  have gc : ((H.push (.row [.slice a l.length c] 26 false)).push (.row [.int .i64 ((32 : Nat) : Int)] 3 false)).get H.n = some (.row [.slice a l.length c] 26 false) := (GH.get_push_old (Nat.lt_succ_self _)).trans GH.get_push_new
  have gn : ((H.push (.row [.slice a l.length c] 26 false)).push (.row [.int .i64 ((32 : Nat) : Int)] 3 false)).get (H.n + 1) = some (.row [.int .i64 32] 3 false) := GH.get_push_new
  have hn3 : ((H.push (.row [.slice a l.length c] 26 false)).push (.row [.int .i64 ((32 : Nat) : Int)] 3 false)).n = H.n + 2 := rfl
  rw [← u2] at hE2 gc gn hn3
  clear u2
  rw [onFunc_s]
  generalize htm : [x0, .slice a l.length c, undef, undef, x4, x5, x6, x7, x8, (.pointer (some ⟨b9, 0, none⟩)), undef, x11, x12, x13, x14, x15, x16, x17, x18, x19, x20, x21, x22, x23, x24, x25, x26, x27, x28, x29, x30, x31, x32, x33, x34, x35, x36, x37, .slice a l.length c, (.func (.func 26) #[] #[(.pointer (some ⟨H.n, 0, none⟩)), (.pointer (some ⟨H.n + 1, 0, none⟩))]), undef, undef, undef, undef, undef, undef, undef] = tm
  have ht1 : tm.length = 47 := by rw [← htm]; rfl
  have ht2 : tm[9]? = some (.pointer (some ⟨b9, 0, none⟩)) := by rw [← htm]; rfl
  clear htm
  have gL : (H3.push (.loop .ready none tm [40] apA apB)).get H3.n = some (.loop .ready none tm [40] apA apB) := GH.get_push_new
  have hE4 := Ext.push H3 (.loop .ready none tm [40] apA apB)
  show Ev (bindM (C (k + 6) (.func (.func 26) #[] #[.pointer (some ⟨H.n, 0, none⟩), .pointer (some ⟨H.n + 1, 0, none⟩)]) [.func (.yield H3.n) #[] #[]] (GH.push H3 (.loop .ready none tm [40] apA apB))) fun x => _) _
  revert gL hE4
  generalize GH.push H3 (.loop .ready none tm [40] apA apB) = H4
  intro gL hE4
  have hE24 := hE2.trans hE4
  have hE04 := hE.trans hE24
  have h9n := GH.get_lt g9
  have hHn := hE.n
  have hpl := pieces_flat (c := 32) (by decide) l.length l (Nat.le_refl _)
  have hpm := many_le (pieces 32 l) fun p hp => (pieces_mem (c := 32) (by decide) l.length l (Nat.le_refl _) p hp).2.2
  have hbl := blks_len (pieces 32 l)
  rw [hpl] at hpm hbl
  have hAI : AI H0 H3.n b9 H.n (H.n + 1) tm (.slice a l.length c) xs [] H4 := ⟨hE04, gL, ⟨_, hE24.get_of g9, by rw [List.flatMap_nil, List.append_nil]; exact hcl.ext hE24⟩, hE4.get_of gc, hE4.get_of gn⟩
  have hIt : ItOp 32 H.n (H.n + 1) (.slice a l.length c) l (AI H0 H3.n b9 H.n (H.n + 1) tm (.slice a l.length c) xs) := ⟨fun D G hG => ⟨hG.c1, hG.c2, hs.mono hG.e⟩⟩
  refine Ev.bind (R := fun r => AI H0 H3.n b9 H.n (H.n + 1) tm (.slice a l.length c) xs (pieces 32 l) r.2) (it_ok (k := k + 5) (by decide) (by decide) (by omega) (by omega) hIt (fun D q G w hpre hG hw' => ap_step (j := k + 2) (by omega) ho (by omega) ht1 ht2 hb9 (by omega) (by omega) (by omega) (by omega) (by omega) (by omega) hpre hG hw') hAI) fun r hr => ?_
  have hL := GH.get_lt hr.loop
  rw [onEnd_n (by decide) hr.loop]
  obtain ⟨wp, q1, q2⟩ := hr.box
  unfold f6_r15
  have hne : H3.n ≠ b9 := by omega
  have g9' := (GH.get_set_other (o := .loop .exhausted none tm [40] apA apB) hne hL).trans q1
  have lw : gLoad Tryd.prog 24 (.pointer (some ⟨b9, 0, none⟩)) (r.2.set H3.n (.loop .exhausted none tm [40] apA apB)) = some wp := ldc g9' ld24 rfl
  simp only [lw, onV_n]
  refine Ev.call0 (clip_ok (k := k + 5) (H0 := H0) (clSet flat_b hr.loop (fun _ _ h => by cases h) q2) (by rw [List.length_append]; omega)) fun u H5 hu => ?_
  obtain ⟨r1, r2⟩ := hu
  have r1 : H5 = _ := r1
  subst r1
  exact Ev.mk ⟨hr.e.set (by omega) hL _, u, rfl, r2⟩
/-- Append. -/
theorem append_ok {H : GH} {v vl : Value} {bs : List (List OpD)} {fin : Bool} (hk : 1000 ≤ k) (hg : GlIn H) (hn : bs.length + 2 ≤ k) (hs : Tp H v bs fin) (hbs : BsOk bs) (hl : Sc tyOp 48 H vl l) (ho : ∀ o ∈ l, OpOk o) (hll : l.length < k) (hsum : bs.flatten.length + l.length ≤ 4096) :
    Ev (C (k + 7) (.func (.func 6) #[] #[]) [v, vl] H) fun r => if fin then r.1 = .tuple #[.slice none 0 0, .int .i64 6] ∧ Ext H r.2 else ApQ H (tapeB (bs ++ pieces 32 l) false) r := by
  rw [C_func T6, f6_eq]
  unfold f6_sh
  refine Ev.call0 (opened_ok (k := k) hk hg hn hs hbs) fun u H2 hu => ?_
  obtain ⟨q1, w, q2, q3⟩ := hu
  have hE2 : Ext H H2 := q1
  have hu1 : u = .tuple #[.agg #[w, .bool (!fin), .bool false, .int .i64 0], .int .i64 (if fin then 6 else 0)] := q2
  have hw : SlR tyOp H2 w (if fin then [] else bs.flatten) := q3
  clear q1 q2 q3
  subst hu1
  obtain ⟨H3, f1, f2, f3, f4⟩ := box55 (H := H2) (p := !fin) (q := false) (e := 0) (sl_one hw)
  have hE3 := hE2.trans f2
  simp only [x0_, x1_, onV_n, f1, onH_s, bin_neq, asB_b, onBool_d]
  cases fin with
  | true =>
    rw [if_pos (by decide)]
    exact Ev.mk ⟨rfl, hE3⟩
  | false =>
    rw [if_neg (by decide)]
    have hw : SlR tyOp H2 w bs.flatten := hw
    unfold f6_r4
    have l0 : gLoad Tryd.prog 26 (.pointer (some ⟨H2.n, 0, none⟩)) H3 = some w := ldc f3 ld26 rfl
    have e1 : IntKind.wrap .i64 ((bs.flatten.length : Int) + (l.length : Int)) = ((bs.flatten.length + l.length : Nat) : Int) := by rw [Go.IntWalk.i64_in _ (by omega)]; omega
    simp only [fa55_0, onV_n, l0, hw.oLen u26, hl.slr.oLen u26, bin_add, e1, bin_gtr, asB_b, onBool_d]
    rw [if_neg (by omega)]
    refine Ev.call0 (invalid_ok (k := k + 3) (hl.slr.mono hE3) ho (by omega) (by omega)) fun u H4 hu => ?_
    obtain ⟨q1, q2⟩ := hu
    have hE4 : Ext H3 H4 := q1
    have hu : u = .int .i64 0 := q2
    clear q1 q2
    subst hu
    simp only [bin_neq, onV_n, asB_b, onBool_d]
    rw [if_neg (fun h => h rfl)]
    have hE04 := hE3.trans hE4
    obtain ⟨ys, hvs, hys⟩ : ∃ ys, SlR tyB H v ys ∧ ((ys = [] ∧ bs = []) ∨ ys = tapeB bs false) := by
      rcases hs with ⟨rfl, h, _⟩ | hs
      · exact ⟨[], .nil, .inl ⟨rfl, h⟩⟩
      · exact ⟨_, hs.slr, .inr rfl⟩
    have hbl := blks_len bs
    have hml := many_le bs fun p hp => (hbs.1 p hp).1
    have htl : (tapeB bs false).length = 4 + (bs.flatMap blk).length := by unfold tapeB tail; simp; omega
    have hxl : ys.length ≤ 100000 := by
      rcases hys with ⟨rfl, _⟩ | rfl
      · simp
      · omega
    refine Ev.call0 (clone_ok (k := k + 5) (hvs.mono hE04) (by omega)) fun u H5 hu => ?_
    obtain ⟨q1, q2⟩ := hu
    have hE5 : Ext H4 H5 := q1
    have hu : Cl tyB 5 H4 H5 u ys := q2
    clear q1 q2
    obtain ⟨H6, c1, c2, c3, c4⟩ := box24 (H := H5) hu.slr
    have hE06 := (hE04.trans hE5).trans c2
    have hb := (hE04.trans hE5).n
    simp only [c1, onH_s]
    unfold f6_r10
    simp only [hvs.oLen u24, onV_n, bin_eql, asB_b, onBool_d]
    have hlk : l.length ≤ 4096 := by omega
    rcases hys with ⟨rfl, rfl⟩ | rfl
    · rw [if_pos (show (([] : List Nat).length : Int) = 0 from rfl), slStart, onV_n]
      refine Ev.call0 (clone_ok (k := k + 5) (start_sl (GlIn.ext hg hE06)) (by simp)) fun u7 H7 hu7 => ?_
      obtain ⟨q1, q2⟩ := hu7
      have hE7 : Ext H6 H7 := q1
      have hu7 : Cl tyB 5 H6 H7 u7 [71, 84, 1, 0] := q2
      clear q1 q2
      have c3' := hE7.get_of c3
      have hs9 := store1 (P := Tryd.prog) (t := 24) (o := 0) (v := u7) c3' (gSize_ld ld24) hu7.slr.cell.2.2 (cl_one hu7) (by simp)
      have hlt := GH.get_lt c3'
      simp only [hs9, onH_s]
      have hcl : Cl tyB 5 H (H7.set H5.n (.row ([u].set 0 u7) 24 false)) u7 [71, 84, 1, 0] := clOld hE06.n (clSet flat_b c3' (rowNe (by decide)) hu7)
      refine (ap_12 hk hll hlk ho (by simp) hb ((hE06.trans hE7).set hb hlt _) (GH.get_set_same c3') hcl hl _ _ _ _ _ _ _ _ _ _ _ _ _ _ _ _ _ _ _ _ _ _ _ _ _ _ _ _ _ _ _ _ _).mono fun r hr => ?_
      rw [if_neg (by decide)]
      have e : tapeB ([] ++ pieces 32 l) false = [71, 84, 1, 0] ++ (pieces 32 l).flatMap blk := by
        unfold tapeB tail
        simp
      rw [e]
      exact hr
    · rw [if_neg (by have := tape_len bs false; omega)]
      have hcl : Cl tyB 5 H H6 u (tapeB bs false) := clOld hE04.n (hu.ext c2)
      refine (ap_12 hk hll hlk ho (by omega) hb hE06 c3 hcl hl _ _ _ _ _ _ _ _ _ _ _ _ _ _ _ _ _ _ _ _ _ _ _ _ _ _ _ _ _ _ _ _ _).mono fun r hr => ?_
      rw [if_neg (by decide)]
      have e : tapeB (bs ++ pieces 32 l) false = tapeB bs false ++ (pieces 32 l).flatMap blk := by
        unfold tapeB tail
        simp
      rw [e]
      exact hr
end
end Go.Proofs.YtdhadannleldiaaDoor
/- Tapes: Finish, Decode, Salvage; what the law's helpers do. -/
namespace Go.Proofs.YtdhadannleldiaaDoor
open Go.Gh
set_option linter.unusedVariables false
set_option linter.unusedSimpArgs false

section
variable {k : Nat} {H : GH} {v : Value} {bs : List (List OpD)} {fin : Bool}
theorem fin_7 {H0 : GH} {w : Value} {xs : List Nat} (hk : 1000 ≤ k) (hx : xs.length ≤ 100000) (hE : Ext H0 H) (hcl : Cl tyB 5 H0 H w xs) : Ev (f11_r7 (C (k + 6)) (k + 6) w H) (ApQ H0 (xs ++ blk [])) := by
  unfold f11_r7
  refine Ev.call0 (block_ok (k := k + 4) (l := []) (by omega) (.nil) (fun o h => by cases h) (by simp)) fun u H4 hu => ?_
  obtain ⟨q1, q2⟩ := hu
  have hE4 : Ext H H4 := q1
  have hu : Cl tyB 5 H H4 u (blk []) := q2
  clear q1 q2
  obtain ⟨new, hf, hnc⟩ := hu.slr.first
  obtain ⟨w', H6, a1, a2, a3, a4⟩ := (hcl.ext hE4).app (P := Tryd.prog) (t := 24) (xt := 24) flat_b u24 u24 el5 (ys := blk []) hu.slr.val hf hnc (by rw [blk_len]; omega) (by rw [blk_len, List.length_nil]; omega) (hE.trans hE4)
  simp only [a1, onVH_s]
  refine Ev.call0 (clip_ok (k := k + 5) (H0 := H0) a3 (by rw [List.length_append, blk_len, List.length_nil]; omega)) fun u2 H5 hu2 => ?_
  obtain ⟨r1, r2⟩ := hu2
  have r1 : H5 = H6 := r1
  subst r1
  exact Ev.mk ⟨a2, u2, rfl, r2⟩
/-- Finish. -/
theorem finish_ok (hk : 1000 ≤ k) (hg : GlIn H) (hn : bs.length + 2 ≤ k) (hs : Tp H v bs fin) (hbs : BsOk bs) :
    Ev (C (k + 7) (.func (.func 11) #[] #[]) [v] H) fun r => if fin then r.1 = .tuple #[.slice none 0 0, .int .i64 6] ∧ Ext H r.2 else ApQ H (tapeB bs true) r := by
  rw [C_func T11, f11_eq]
  unfold f11_sh
  refine Ev.call0 (opened_ok (k := k) hk hg hn hs hbs) fun u H2 hu => ?_
  obtain ⟨q1, w, q2, q3⟩ := hu
  have hE2 : Ext H H2 := q1
  have hu1 : u = .tuple #[.agg #[w, .bool (!fin), .bool false, .int .i64 0], .int .i64 (if fin then 6 else 0)] := q2
  have hw : SlR tyOp H2 w (if fin then [] else bs.flatten) := q3
  clear q1 q2 q3
  subst hu1
  obtain ⟨H3, f1, f2, f3, f4⟩ := box55 (H := H2) (p := !fin) (q := false) (e := 0) (sl_one hw)
  have hE3 := hE2.trans f2
  simp only [x0_, x1_, onV_n, f1, onH_s, bin_neq, asB_b, onBool_d]
  cases fin with
  | true =>
    rw [if_pos (by decide)]
    exact Ev.mk ⟨rfl, hE3⟩
  | false =>
    rw [if_neg (by decide)]
    obtain ⟨ys, hvs, hys⟩ : ∃ ys, SlR tyB H v ys ∧ ((ys = [] ∧ bs = []) ∨ ys = tapeB bs false) := by
      rcases hs with ⟨rfl, h, _⟩ | hs
      · exact ⟨[], .nil, .inl ⟨rfl, h⟩⟩
      · exact ⟨_, hs.slr, .inr rfl⟩
    have hbl := blks_len bs
    have hml := many_le bs fun p hp => (hbs.1 p hp).1
    have htl : (tapeB bs false).length = 4 + (bs.flatMap blk).length := by unfold tapeB tail; simp; omega
    have hfl := hbs.2
    have hxl : ys.length ≤ 100000 := by
      rcases hys with ⟨rfl, _⟩ | rfl
      · simp
      · omega
    refine Ev.call0 (clone_ok (k := k + 5) (hvs.mono hE3) (by omega)) fun u H5 hu => ?_
    obtain ⟨q1, q2⟩ := hu
    have hE5 : Ext H3 H5 := q1
    have hu : Cl tyB 5 H3 H5 u ys := q2
    clear q1 q2
    have hE05 := hE3.trans hE5
    simp only [hvs.oLen u24, onV_n, bin_eql, asB_b, onBool_d]
    rcases hys with ⟨rfl, rfl⟩ | rfl
    · rw [if_pos (show (([] : List Nat).length : Int) = 0 from rfl), slStart, onV_n]
      refine Ev.call0 (clone_ok (k := k + 5) (start_sl (GlIn.ext hg hE05)) (by simp)) fun u7 H7 hu7 => ?_
      obtain ⟨q1, q2⟩ := hu7
      have hE7 : Ext H5 H7 := q1
      have hu7 : Cl tyB 5 H5 H7 u7 [71, 84, 1, 0] := q2
      clear q1 q2
      refine (fin_7 hk (by simp) (hE05.trans hE7) (clOld hE05.n hu7)).mono fun r hr => ?_
      rw [if_neg (by decide)]
      exact hr
    · rw [if_neg (by have := tape_len bs false; omega)]
      refine (fin_7 hk hxl hE05 (clOld hE3.n hu)).mono fun r hr => ?_
      rw [if_neg (by decide)]
      have e : tapeB bs true = tapeB bs false ++ blk [] := by
        unfold tapeB tail
        simp
      rw [e]
      exact hr
/-- Decode. -/
theorem decodeT_ok (hk : 1000 ≤ k) (hg : GlIn H) (hn : bs.length + 2 ≤ k) (hs : Sc tyB 5 H v (tapeB bs fin)) (hbs : BsOk bs) :
    Ev (C (k + 6) (.func (.func 9) #[] #[]) [v] H) fun r => Ext H r.2 ∧ ∃ m, r.1 = .tuple #[m, .int .i64 (if fin then 0 else 4)] ∧ (fin = true → Sc tyOp 48 r.2 m bs.flatten ∧ oCap Tryd.prog 26 m = some (.int .i64 bs.flatten.length)) := by
  rw [C_func T9, f9_eq]
  unfold f9_sh
  refine Ev.call0 (read_ok (k := k) hk hg hn hs hbs.1 hbs.2) fun u H2 hu => ?_
  obtain ⟨q1, w, q2, q3⟩ := hu
  have hE2 : Ext H H2 := q1
  have hu1 : u = .agg #[w, .bool (!fin), .bool fin, .int .i64 0] := q2
  have hu3 : Own tyOp 48 H H2 w bs.flatten := q3
  clear q1 q2 q3
  subst hu1
  have hfl := hbs.2
  have hsc : Sc tyOp 48 H2 w bs.flatten := hu3.sc hE2 (by unfold loose; omega)
  obtain ⟨H3, f1, f2, f3, f4⟩ := box55 (H := H2) (p := !fin) (q := fin) (e := 0) (sl_one hsc.slr)
  have l3 : gLoad Tryd.prog 28 (.pointer (some ⟨H2.n, 3, none⟩)) H3 = some (.int .i64 0) := ldc f3 ld28 rfl
  have l2 : gLoad Tryd.prog 4 (.pointer (some ⟨H2.n, 2, none⟩)) H3 = some (.bool fin) := ldc f3 ld4 rfl
  have l0 : gLoad Tryd.prog 26 (.pointer (some ⟨H2.n, 0, none⟩)) H3 = some w := ldc f3 ld26 rfl
  simp only [f1, onH_s, l3, onV_n, bin_neq, asB_b, onBool_d]
  rw [if_neg (fun h => h rfl)]
  simp only [l2, onV_n, not_b, asB_b, onBool_i]
  cases fin with
  | false => exact Ev.mk ⟨hE2.trans f2, _, rfl, fun h => by cases h⟩
  | true =>
    rw [if_neg (by decide)]
    unfold f9_r6
    simp only [fa55_0, onV_n, l0]
    refine Ev.call0 (clipOp_ok (k := k + 4) (hsc.mono f2) (by omega)) fun u H4 hu => ?_
    obtain ⟨q1, q2, q3⟩ := hu
    have q1 : H4 = H3 := q1
    subst q1
    exact Ev.mk ⟨hE2.trans f2, u, rfl, fun _ => ⟨q2, q3⟩⟩
/-- Salvage. -/
theorem salvage_ok (hk : 1000 ≤ k) (hg : GlIn H) (hn : bs.length + 2 ≤ k) (hs : Sc tyB 5 H v (tapeB bs fin)) (hbs : BsOk bs) :
    Ev (C (k + 6) (.func (.func 8) #[] #[]) [v] H) fun r => Ext H r.2 ∧ ∃ m, r.1 = .tuple #[m, .bool fin] ∧ Sc tyOp 48 r.2 m bs.flatten ∧ oCap Tryd.prog 26 m = some (.int .i64 bs.flatten.length) := by
  rw [C_func T8, f8_eq]
  unfold f8_sh
  refine Ev.call0 (read_ok (k := k) hk hg hn hs hbs.1 hbs.2) fun u H2 hu => ?_
  obtain ⟨q1, w, q2, q3⟩ := hu
  have hE2 : Ext H H2 := q1
  have hu1 : u = .agg #[w, .bool (!fin), .bool fin, .int .i64 0] := q2
  have hu3 : Own tyOp 48 H H2 w bs.flatten := q3
  clear q1 q2 q3
  subst hu1
  have hfl := hbs.2
  have hsc : Sc tyOp 48 H2 w bs.flatten := hu3.sc hE2 (by unfold loose; omega)
  obtain ⟨H3, f1, f2, f3, f4⟩ := box55 (H := H2) (p := !fin) (q := fin) (e := 0) (sl_one hsc.slr)
  have l0 : gLoad Tryd.prog 26 (.pointer (some ⟨H2.n, 0, none⟩)) H3 = some w := ldc f3 ld26 rfl
  simp only [f1, onH_s, l0, onV_n]
  refine Ev.call 2 (R := fun v _ => Sc tyOp 48 H3 v bs.flatten ∧ oCap Tryd.prog 26 v = some (.int .i64 bs.flatten.length)) (Sp.of (fun lo => (clipOp_ok (k := k + 4) (H := { H3 with lo := lo }) (Sc.keep (H := H3) (H' := { H3 with lo := lo }) flat_op (fun _ _ _ h => h) (hsc.mono f2)) (by omega)).mono fun z hz => ⟨by rw [hz.1]; exact .refl _, Sc.keep (H := { H3 with lo := lo }) (H' := H3) flat_op (fun _ _ _ h => h) hz.2.1, hz.2.2⟩) (fun _ _ _ h => h)) fun u H4 hE4 hu => ?_
  obtain ⟨hu1, hu2⟩ := hu
  have l2 : gLoad Tryd.prog 4 (.pointer (some ⟨H2.n, 2, none⟩)) H4 = some (.bool fin) := ldc (hE4.get_of f3) ld4 rfl
  simp only [l2, onV_n]
  exact Ev.mk ⟨(hE2.trans f2).trans hE4, u, rfl, hu1.mono hE4, hu2⟩
end
theorem nrEq {d : Nat} (hd : 1 < d) (a b : Int) : quick Tryd.prog (Op.equalIn d 46 (.agg #[.int .u8 a, .int .i64 b]) (.agg #[.int .u8 a, .int .i64 b])) = some true := by
  obtain ⟨d, rfl⟩ : ∃ e, d = e + 1 := ⟨d - 1, by omega⟩
  rw [quick_eqFields d 46 _ _ (by unfold Program.fieldsOf; rw [Tryd.underlying46]) (by kernel_rfl)]
  simp only [Program.fieldsOf, Tryd.underlying46]
  refine (quick_eqCons (a := .int .u8 a) (b := .int .u8 a) (r := a == a) (s := (b == b) && true) ?_ ?_ ?_ ?_ ?_).trans (by simp)
  · simp
  · kernel_rfl
  · kernel_rfl
  · exact quick_eqInt' (by omega) Tryd.underlying44
  refine quick_eqCons (a := .int .i64 b) (b := .int .i64 b) ?_ ?_ ?_ ?_ quick_eqNil
  · simp
  · kernel_rfl
  · kernel_rfl
  · exact quick_eqInt' (by omega) Tryd.underlying3
theorem opEq (o : OpD) : quick Tryd.prog (Op.equal 48 (opV o) (opV o)) = some true := by
  unfold opV
  rw [quick_equal_struct 48 _ _ (by unfold Program.fieldsOf; rw [Tryd.underlying48]) (by kernel_rfl)]
  simp only [Program.fieldsOf, Tryd.underlying48]
  refine (quick_eqCons (a := .int .u8 o.kd) (b := .int .u8 o.kd) (r := o.kd == o.kd) (s := true) ?_ ?_ ?_ ?_ ?_).trans (by simp)
  · simp
  · kernel_rfl
  · kernel_rfl
  · exact quick_eqInt' (by omega) Tryd.underlying42
  refine (quick_eqCons (a := .int .u8 o.dr) (b := .int .u8 o.dr) (r := o.dr == o.dr) (s := true) ?_ ?_ ?_ ?_ ?_).trans (by simp)
  · simp
  · kernel_rfl
  · kernel_rfl
  · exact quick_eqInt' (by omega) Tryd.underlying43
  refine (quick_eqCons (a := .agg #[.int .u8 o.bd, .int .i64 o.at']) (b := .agg #[.int .u8 o.bd, .int .i64 o.at']) (r := true) (s := true) ?_ ?_ ?_ ?_ ?_).trans (by simp)
  · simp
  · kernel_rfl
  · kernel_rfl
  · exact nrEq (by omega) _ _
  refine (quick_eqCons (a := .int .u8 o.yn) (b := .int .u8 o.yn) (r := o.yn == o.yn) (s := true) ?_ ?_ ?_ ?_ ?_).trans (by simp)
  · simp
  · kernel_rfl
  · kernel_rfl
  · exact quick_eqInt' (by omega) Tryd.underlying5
  refine (quick_eqCons (a := .int .i64 o.rk) (b := .int .i64 o.rk) (r := o.rk == o.rk) (s := true) ?_ ?_ ?_ ?_ quick_eqNil).trans (by simp)
  · simp
  · kernel_rfl
  · kernel_rfl
  · exact quick_eqInt' (by omega) Tryd.underlying3
theorem neqOp (o : OpD) : (oBin Tryd.prog .neq 48 (opV o) (opV o)).filter closed = some (.bool false) := by
  have h : oBin Tryd.prog .neq 48 (opV o) (opV o) = quick Tryd.prog (binOp .neq 48 (opV o) (opV o)) := by kernel_rfl
  have h2 : quick Tryd.prog (binOp .neq 48 (opV o) (opV o)) = (quick Tryd.prog (Op.equal 48 (opV o) (opV o))).bind fun b => some (.bool !b) := by
    unfold opV binOp
    rw [quick_bind]
    rfl
  rw [h, h2, opEq]
  rfl
/-- Equal operations, and no room left. -/
theorem same_ok {k : Nat} {va vb : Value} {l : List OpD} {H : GH} (ha : SlR tyOp H va l) (hc : oCap Tryd.prog 26 va = some (.int .i64 l.length)) (hb : SlR tyOp H vb l) (hl : l.length < k) (hl' : l.length ≤ 1000000) : Ev (C (k + 1) (.func (.func 10) #[] #[]) [va, vb] H) fun r => r = (.int .i64 1, H) := by
  rw [C_func T10, f10_eq]
  unfold f10_sh f10_g1_6
  simp only [ha.oLen u26, hb.oLen u26, onV_n, bin_neq, asB_b, onBool_d]
  rw [if_neg (fun h => h rfl)]
  simp only [hc, ha.oLen u26, onV_n, bin_neq, asB_b, onBool_d]
  rw [if_neg (fun h => h rfl)]
  have key : ∀ (r i : Nat), i ≤ l.length → l.length - i < r → Ev (f10_l4 (C k) k r va vb (.int .i64 (i : Int)) H) fun r => r = (.int .i64 1, H) := by
    intro r
    induction r with
    | zero => intro i _ h; omega
    | succ r ih =>
      intro i hi hr
      show Ev (f10_l4b (C k) k (f10_l4 (C k) k r) va vb (.int .i64 (i : Int)) H) _
      unfold f10_l4b
      simp only [ha.oLen u26, bin_lss, onV_n, asB_b, onBool_d]
      by_cases hlt : i < l.length
      · rw [if_pos (by omega)]
        obtain ⟨p, e1, e2⟩ := op_at ha (k := .i64) hlt
        obtain ⟨q, e3, e4⟩ := op_at hb (k := .i64) hlt
        simp only [e1, op_ld e2, e3, op_ld e4, neqOp, onV_n, asB_b, onBool_i, Bool.false_eq_true, if_false, bin_add]
        rw [wrS (by omega)]
        exact ih (i + 1) (by omega) (by omega)
      · rw [if_neg (by omega)]
        exact Ev.mk rfl
  exact key k 0 (by omega) (by omega)
/-- A program of plain data. -/
theorem ofP_ok {k : Nat} {v : Value} {xs : List OD} {H : GH} (hs : SlR tyO H v xs) (hx : ∀ x ∈ xs, x.ok) (hl : xs.length < k + 1) (hl' : xs.length ≤ 100000) : Ev (C (k + 2) (.func (.func 5) #[] #[]) [v] H) fun r => Ext H r.2 ∧ ∃ l, l.length = xs.length ∧ (∀ o ∈ l, OpOk o) ∧ Own tyOp 48 H r.2 r.1 l := by
  rw [C_func T5, f5_eq]
  unfold f5_sh
  have key : ∀ (r i : Nat) (G : GH) (w : Value) (l : List OpD), i ≤ xs.length → xs.length - i < r → Ext H G → l.length = i → (∀ o ∈ l, OpOk o) → Own tyOp 48 H G w l → Ev (f5_l3 (C (k + 1)) (k + 1) r v w (.int .i64 (i : Int)) G) fun r => Ext H r.2 ∧ ∃ l, l.length = xs.length ∧ (∀ o ∈ l, OpOk o) ∧ Own tyOp 48 H r.2 r.1 l := by
    intro r
    induction r with
    | zero => intro i _ _ _ _ h; omega
    | succ r ih =>
      intro i G w l hi hr hE hll ho hw
      show Ev (f5_l3b (C (k + 1)) (k + 1) (f5_l3 (C (k + 1)) (k + 1) r) v w (.int .i64 (i : Int)) G) _
      unfold f5_l3b
      simp only [(hs.mono hE).oLen u23, bin_lss, onV_n, asB_b, onBool_d]
      by_cases hlt : i < xs.length
      · rw [if_pos (by omega)]
        obtain ⟨p, cs, e1, e2, e3⟩ := (hs.mono hE).at u23 (elemOk_size el52) (k := .i64) hlt
        have e3 : cs = oC xs[i] := e3
        subst e3
        have lx : gLoad Tryd.prog 52 p G = some (oV xs[i]) := e2.loadA ld52
        simp only [e1, lx, onV_n]
        refine Ev.call0 (of_ok (k := k) (hx _ (List.getElem_mem hlt))) fun u H2 hu => ?_
        obtain ⟨q1, o, q2, q3⟩ := hu
        have hE2 : Ext G H2 := q1
        have hu : u = opV o := q3
        clear q1 q3
        subst hu
        simp only [build26_1, onVH_s]
        have hE3 := Ext.push H2 (.row (opC o) 48 false)
        have hf : gFirst tyOp.sz [o].length (.slice (some ⟨H2.n, 0, none⟩) 1 1) (H2.push (.row (opC o) 48 false)) = some (opC o) := by
          unfold gFirst
          simp only [GH.get_push_new]
          rfl
        obtain ⟨w', H8, a1, a2, a3, a4, a5, a6⟩ := Own.append (P := Tryd.prog) (st := 26) (xt := 26) ((hE.trans hE2).trans hE3) (Own.extO hE3 (Own.extO hE2 hw)) u26 u26 el48 ⟨_, _, rfl⟩ hf (.cons (c := opC o) (cs := []) rfl .nil) (by simp; omega)
        have a1' : gAppend Tryd.prog 26 26 w (.slice (some ⟨H2.n, 0, none⟩) 1 1) (H2.push (.row (opC o) 48 false)) = some (w', H8) := a1
        simp only [a1', onVH_s, bin_add, onV_n]
        rw [wrS (by omega)]
        refine ih (i + 1) H8 w' (l ++ [o]) (by omega) (by omega) a2 (by rw [List.length_append, hll]; rfl) (fun x hx => ?_) a3
        rcases List.mem_append.1 hx with hx | hx
        · exact ho x hx
        · rw [List.mem_singleton] at hx; subst hx; exact q2
      · rw [if_neg (by omega)]
        exact Ev.mk ⟨hE, l, by omega, ho, hw⟩
  exact key (k + 1) 0 H (.slice none 0 0) [] (by omega) (by omega) (.refl _) rfl (fun o h => by cases h) Own.nil
end Go.Proofs.YtdhadannleldiaaDoor
