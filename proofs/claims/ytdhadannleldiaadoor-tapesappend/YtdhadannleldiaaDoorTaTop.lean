/- TapesAppend: for every input the law answers true, and the input reads as it did. The law's own examples (lives) are evaluated by the kernel; all else is shown for any operations and any parts.
   No condition is asked. -/
import Derived.Test.YtdhadannleldiaaDoorTaN
import Derived.Test.YtdhadannleldiaaDoorTaLives
import Derived.Test.YtdhadannleldiaaDoorGnData
import Derived.Test.YtdhadannleldiaaDoorRows
import Derived.Test.YtdhadannleldiaaDoorTie
import Derived.Test.YtdhadannleldiaaDoorCards
import Derived.WalkKit
import Derived.ProofKit
import Derived.LaidMore
import Derived.OpenShut
import Derived.ShutString
import Derived.ChangeOld
import Derived.Below
import Derived.SizedLaws
import Derived.Stop.Joined
import Derived.SevenTiedAt
namespace Go.Proofs.YtdhadannleldiaaDoor
open Go.Gh
set_option linter.unusedVariables false
set_option linter.unusedSimpArgs false
set_option maxRecDepth 100000

theorem clo_ok : ClOk Tryd.prog clo := by
  intro f v h
  unfold clo at h
  cases hf : (f == 4) with
  | false => rw [hf] at h; cases h
  | true =>
    rw [hf] at h
    have hf : f = 4 := by simpa using hf
    subst hf
    have h : some (Value.bool true) = some v := h
    injection h with h
    subst h
    obtain ⟨l, h1, h2⟩ := allT_spec lives4
    exact ⟨rfl, fnE, 300, l, fun f fn h => fnE_ok f fn h, h1, h2⟩

theorem wf_u8 {n : Int} (h : (Lit.int .u8 n).wf = true) : 0 ≤ n ∧ n < 256 := by
  unfold Lit.wf at h
  simp [IntKind.min, IntKind.max, IntKind.signed, IntKind.bits] at h
  omega
/-- Bytes, as they are read. -/
def tyBk : Ty Nat where
  sz := 1
  rep _ cs x := cs = [.int .u8 (x : Int)] ∧ x < 256
  len h := by obtain ⟨rfl, _⟩ := h; rfl
  one h := by obtain ⟨rfl, _⟩ := h; rfl
  mono _ h := h
def tyOk : Ty OD where
  sz := 6
  rep _ cs x := cs = oC x ∧ x.ok
  len h := by obtain ⟨rfl, _⟩ := h; rfl
  one h := by obtain ⟨rfl, _⟩ := h; rfl
  mono _ h := h
theorem cells_cut {α : Type} {A B : Ty α} {p : α → Prop} {H : GH} (hr : ∀ cs x, A.rep H cs x → B.rep H cs x ∧ p x) {cs : List Value} {xs : List α} (h : CellsR A H cs xs) : CellsR B H cs xs ∧ ∀ x ∈ xs, p x := by
  induction h with
  | nil => exact ⟨.nil, fun x hx => by cases hx⟩
  | cons h t ih =>
    refine ⟨.cons (hr _ _ h).1 ih.1, fun y hy => ?_⟩
    rcases List.mem_cons.1 hy with rfl | hy
    · exact (hr _ _ h).2
    · exact ih.2 y hy
theorem sl_cut {α : Type} {A B : Ty α} {p : α → Prop} {H : GH} (hr : ∀ cs x, A.rep H cs x → B.rep H cs x ∧ p x) {v : Value} {xs : List α} (h : SlR A H v xs) : SlR B H v xs ∧ ∀ x ∈ xs, p x := by
  rcases h with ⟨rfl, rfl⟩ | ⟨b, o, c, row, e, ro, cs, rfl, h2, h3, h4, h5⟩
  · exact ⟨.nil, fun x hx => by cases hx⟩
  · obtain ⟨h6, h7⟩ := cells_cut hr h5
    exact ⟨.inr ⟨b, o, c, row, e, ro, cs, rfl, h2, h3, h4, h6⟩, h7⟩
theorem list6 {α : Type} {l : List α} (h : l.length = 6) : ∃ a b c d e f, l = [a, b, c, d, e, f] := by
  match l, h with
  | [a, b, c, d, e, f], _ => exact ⟨a, b, c, d, e, f, rfl⟩
theorem opens_b : Opens Tryd.prog tyBk 5 := by
  intro D enc W fuel cs x h m H hR
  obtain ⟨n, rfl, rfl, hwf⟩ := DataW.trod_int Tryd.underlying5 h
  obtain ⟨h0, h1⟩ := wf_u8 hwf
  obtain ⟨n, rfl⟩ := Int.eq_ofNat_of_zero_le h0
  exact ⟨m, H, [.int .u8 (n : Int)], n, .refl m, .refl H, hR, .cons (.int _ _) .nil, rfl, by omega⟩
theorem opens_o : Opens Tryd.prog tyOk 52 := by
  intro D enc W fuel cs x h m H hR
  obtain ⟨xs, n, _, rfl, hl, hxl, hget⟩ := DataW.trod_struct Tryd.underlying52 h
  have hc : Tryd.prog.cellsOf 52 = 6 := by kernel_rfl
  have hc5 : Tryd.prog.cellsOf 5 = 1 := by kernel_rfl
  rw [hc] at hl
  obtain ⟨c0, c1, c2, c3, c4, c5, rfl⟩ := list6 hl
  have hxl : xs.length = 6 := hxl
  have h0 : DataW.trod enc Tryd.prog W 0 (fun _ => true) true n 5 (([c0, c1, c2, c3, c4, c5].drop 0).take (Tryd.prog.cellsOf 5)) = xs[0]? := hget 0 _ rfl
  have h1 : DataW.trod enc Tryd.prog W 0 (fun _ => true) true n 5 (([c0, c1, c2, c3, c4, c5].drop 1).take (Tryd.prog.cellsOf 5)) = xs[1]? := hget 1 _ rfl
  have h2 : DataW.trod enc Tryd.prog W 0 (fun _ => true) true n 5 (([c0, c1, c2, c3, c4, c5].drop 2).take (Tryd.prog.cellsOf 5)) = xs[2]? := hget 2 _ rfl
  have h3 : DataW.trod enc Tryd.prog W 0 (fun _ => true) true n 5 (([c0, c1, c2, c3, c4, c5].drop 3).take (Tryd.prog.cellsOf 5)) = xs[3]? := hget 3 _ rfl
  have h4 : DataW.trod enc Tryd.prog W 0 (fun _ => true) true n 5 (([c0, c1, c2, c3, c4, c5].drop 4).take (Tryd.prog.cellsOf 5)) = xs[4]? := hget 4 _ rfl
  have h5 : DataW.trod enc Tryd.prog W 0 (fun _ => true) true n 5 (([c0, c1, c2, c3, c4, c5].drop 5).take (Tryd.prog.cellsOf 5)) = xs[5]? := hget 5 _ rfl
  rw [List.getElem?_eq_getElem (by omega), hc5] at h0 h1 h2 h3 h4 h5
  obtain ⟨x0, e0, _, w0⟩ := DataW.trod_int Tryd.underlying5 h0
  obtain ⟨x1, e1, _, w1⟩ := DataW.trod_int Tryd.underlying5 h1
  obtain ⟨x2, e2, _, w2⟩ := DataW.trod_int Tryd.underlying5 h2
  obtain ⟨x3, e3, _, w3⟩ := DataW.trod_int Tryd.underlying5 h3
  obtain ⟨x4, e4, _, w4⟩ := DataW.trod_int Tryd.underlying5 h4
  obtain ⟨x5, e5, _, w5⟩ := DataW.trod_int Tryd.underlying5 h5
  simp only [List.drop_zero, List.take_succ_cons, List.take_zero, List.drop_succ_cons, List.cons.injEq, and_true] at e0 e1 e2 e3 e4 e5
  subst e0; subst e1; subst e2; subst e3; subst e4; subst e5
  exact ⟨m, H, _, ⟨x0, x1, x2, x3, x4, x5⟩, .refl m, .refl H, hR, .cons (.int _ _) (.cons (.int _ _) (.cons (.int _ _) (.cons (.int _ _) (.cons (.int _ _) (.cons (.int _ _) .nil))))), rfl, (wf_u8 w0).1, (wf_u8 w1).1, (wf_u8 w2).1, (wf_u8 w3).1, (wf_u8 w4).1, (wf_u8 w5).1⟩
def tyOs : Ty (List OD) where
  sz := 1
  rep H cs x := ∃ v, cs = [v] ∧ SlR tyOk H v x
  len h := by obtain ⟨v, rfl, _⟩ := h; rfl
  one h := by obtain ⟨v, rfl, h⟩ := h; obtain ⟨a, c, rfl⟩ := h.val; rfl
  mono hE h := by obtain ⟨v, rfl, h⟩ := h; exact ⟨v, rfl, h.mono hE⟩
def tyBs : Ty (List Nat) where
  sz := 1
  rep H cs x := ∃ v, cs = [v] ∧ SlR tyBk H v x
  len h := by obtain ⟨v, rfl, _⟩ := h; rfl
  one h := by obtain ⟨v, rfl, h⟩ := h; obtain ⟨a, c, rfl⟩ := h.val; rfl
  mono hE h := by obtain ⟨v, rfl, h⟩ := h; exact ⟨v, rfl, h.mono hE⟩
theorem opens_os : Opens Tryd.prog tyOs 23 := opens_slice (A := tyOk) (B := tyOs) u23 (by kernel_rfl) (elemOk_size el52) (by decide) opens_o fun H v xs h => ⟨v, rfl, h⟩
theorem opens_bs : Opens Tryd.prog tyBs 24 := opens_slice (A := tyBk) (B := tyBs) u24 (by kernel_rfl) (elemOk_size el5) (by decide) opens_b fun H v xs h => ⟨v, rfl, h⟩

namespace tapesAppend
open Go.ChangeShapes Go.WideShapes Go.ChangeAt Go.RowKit
abbrev laidL : List (String × DataW Unit) := [("gansey/tapes.start", Rows.laid_gansey_tapes_start)]
theorem own : ownKnob Tryd.prog.godebug = none := by kernel_rfl
theorem laidOut : laidOutB Tryd.prog = true := by kernel_rfl
theorem gStart : Tryd.prog.globalNamed "gansey/tapes.start" = some 0 := by kernel_rfl
theorem tStart : (Tryd.prog.globals[0]?).map (·.type) = some 60 := by kernel_rfl
/-- The door's own heap meets the condition. -/
theorem door_met (os : Os) (args : Array Value) : laidMetH Tryd.prog laidL ((World.doorLaid Tryd.prog 400 os).forCall (fun _ _ => 0) ⟨#[], args, []⟩).memory :=
  laidMetH_of_parts3 (fuel := 8) (laidMet_of_run' 8 (by kernel_rfl) (by kernel_rfl)) (by kernel_rfl) (by kernel_rfl)
theorem list4 {α : Type} {l : List α} (h : l.length = 4) : ∃ a b c d, l = [a, b, c, d] := by
  match l, h with
  | [a, b, c, d], _ => exact ⟨a, b, c, d, rfl⟩
/-- The variable's cells. -/
theorem of_laid {W : World} (h : laidMetH Tryd.prog laidL W) : ∀ (i : Nat) (u : Value), (glRow 0)[i]? = some u → W.cell? ⟨0, i, none⟩ = some u := by
  rw [MakeChecks.laidMetH_plain _ _ _ (by kernel_rfl)] at h
  obtain ⟨ps, ⟨g0, t0, cs0, f0, p0, q0, hg0, ht0, hv0, hd0, _, _⟩, _, _⟩ := h
  obtain rfl := Option.some.inj (gStart.symm.trans hg0)
  obtain rfl := Option.some.inj (tStart.symm.trans ht0)
  obtain ⟨xs, m1, rfl, hx1, hlen, hn4, hel⟩ := DataW.trod_array Tryd.underlying60 hd0
  have c5 : Tryd.prog.cellsOf 5 = 1 := by kernel_rfl
  have c60 : Tryd.prog.cellsOf 60 = 4 := by kernel_rfl
  obtain ⟨ls⟩ := cs0
  have hlen : ls.length = 4 := by rw [c60] at hlen; exact hlen
  obtain ⟨a0, a1, a2, a3, rfl⟩ := list4 hlen
  obtain ⟨y0, y1, y2, y3, rfl⟩ := list4 hn4
  have hx : Rows.laid_gansey_tapes_start = DataW.agg [y0.1, y1.1, y2.1, y3.1] := congrArg Prod.fst hx1
  unfold Rows.laid_gansey_tapes_start at hx
  simp only [DataW.agg.injEq, List.cons.injEq, and_true] at hx
  obtain ⟨z0, z1, z2, z3⟩ := hx
  have h0 : DataW.trod (fun _ => ()) Tryd.prog W 0 (fun _ => true) false m1 5 [a0] = some y0 := by have := hel 0 (by decide); rw [c5] at this; exact this
  have h1 : DataW.trod (fun _ => ()) Tryd.prog W 0 (fun _ => true) false m1 5 [a1] = some y1 := by have := hel 1 (by decide); rw [c5] at this; exact this
  have h2 : DataW.trod (fun _ => ()) Tryd.prog W 0 (fun _ => true) false m1 5 [a2] = some y2 := by have := hel 2 (by decide); rw [c5] at this; exact this
  have h3 : DataW.trod (fun _ => ()) Tryd.prog W 0 (fun _ => true) false m1 5 [a3] = some y3 := by have := hel 3 (by decide); rw [c5] at this; exact this
  obtain ⟨k0, e0, f0, _⟩ := DataW.trod_int Tryd.underlying5 h0
  obtain ⟨k1, e1, f1, _⟩ := DataW.trod_int Tryd.underlying5 h1
  obtain ⟨k2, e2, f2, _⟩ := DataW.trod_int Tryd.underlying5 h2
  obtain ⟨k3, e3, f3, _⟩ := DataW.trod_int Tryd.underlying5 h3
  subst f0; subst f1; subst f2; subst f3
  simp only [DataW.lit.injEq, Lit.int.injEq, true_and, List.cons.injEq, and_true] at z0 z1 z2 z3 e0 e1 e2 e3
  subst z0; subst z1; subst z2; subst z3; subst e0; subst e1; subst e2; subst e3
  intro i u hu
  have hc := World.var?_cell gStart hv0 i
  rw [hc]
  match i, hu with
  | 0, hu => exact hu
  | 1, hu => exact hu
  | 2, hu => exact hu
  | 3, hu => exact hu
theorem walk_k {k : Nat} (hk : 1000 ≤ k) {D : Type} {enc : TypeId × Value → D} {W : World} (hL : laidMetH Tryd.prog laidL W) {v0 v1 : Value} {d0 d1 : DataW D} {p0 p1 : List MemPlace}
    (h0 : DataW.Trod enc Tryd.prog W 0 (fun _ => true) true 23 v0 d0 p0) (hv0 : v0.cells.toList = [v0])
    (h1 : DataW.Trod enc Tryd.prog W 0 (fun _ => true) true 24 v1 d1 p1) (hv1 : v1.cells.toList = [v1]) :
    Calls Tryd.prog 3 #[v0, v1] W fun e w' => e = .returned (.bool true) ∧ Below W.heap.size W w' := by
  obtain ⟨fuel0, h0⟩ := h0
  obtain ⟨fuel1, h1⟩ := h1
  rw [hv0] at h0
  rw [hv1] at h1
  have hl := of_laid hL
  have hR : Rel Tryd.prog W.heap.size (fun b => if glSel b then some ⟨b, 0, 0, 0, false⟩ else none) GH.start W := Rel.first fun g hg => by
    have hg0 : g = 0 := by simpa [glSel] using hg
    subst hg0
    obtain ⟨_, arr, t, fr, q1, _⟩ := cell_blk (hl 0 _ rfl)
    refine ⟨(Array.getElem?_eq_some_iff.1 q1).1, arr, t, fr, q1, fun i u hu => ?_⟩
    obtain ⟨_, arr', t', fr', q3, q4⟩ := cell_blk (hl i u hu)
    have q3 : W.heap[0]? = some (.cells arr' t' fr') := q3
    have q1 : W.heap[0]? = some (.cells arr t fr) := q1
    rw [q1] at q3
    injection q3 with q3
    injection q3 with q3 _ _
    subst q3
    exact q4
  obtain ⟨m1, H1, g1, xs, a1, a2, a3, a4, u0, rfl, a5⟩ := opens_os enc W fuel0 _ _ h0 _ GH.start hR
  obtain ⟨m2, H2, g2, ps, b1, b2, b3, b4, u1, rfl, b5⟩ := opens_bs enc W fuel1 _ _ h1 m1 H1 a3
  have hgl : GlIn GH.start := fun g hg => start_get hg
  obtain ⟨sx, okx⟩ := sl_cut (B := tyO) (p := OD.ok) (fun cs x h => h) (a5.mono b2)
  obtain ⟨sp, okp⟩ := sl_cut (B := tyB) (p := fun x => x < 256) (fun cs x h => h) b5
  obtain ⟨r, hx, hy⟩ := law_ok (k := k) hk (GlIn.ext (GlIn.ext hgl a2) b2) sx okx sp okp
  have hx : gCallC Tryd.prog fnT clo (k + 8) (.func (.func 3) #[] #[]) [u0, u1] H2 = some [r] := by
    have := C_func (k := k + 7) (args := [u0, u1]) (H := H2) T3
    exact this.trans hx
  have hmix : Tryd.prog.follows .mixedOrders = true := by kernel_rfl
  refine top_callsC hmix (fun f fn h => fnT_ok f fn h) clo_ok hx (fun x hx => by rw [List.mem_singleton] at hx; subst hx; exact hy) (m := m2) ?_ b3
  exact (a4.mono b1).append b4
theorem walk {D : Type} {enc : TypeId × Value → D} {W : World} (hL : laidMetH Tryd.prog laidL W) {v0 v1 : Value} {d0 d1 : DataW D} {p0 p1 : List MemPlace}
    (h0 : DataW.Trod enc Tryd.prog W 0 (fun _ => true) true 23 v0 d0 p0) (hv0 : v0.cells.toList = [v0])
    (h1 : DataW.Trod enc Tryd.prog W 0 (fun _ => true) true 24 v1 d1 p1) (hv1 : v1.cells.toList = [v1]) :
    Calls Tryd.prog 3 #[v0, v1] W fun e w' => e = .returned (.bool true) ∧ Below W.heap.size W w' := walk_k (Nat.le_refl 1000) hL h0 hv0 h1 hv1
theorem sl_cells {t e : TypeId} (hu : Tryd.prog.underlying t = some (.slice e)) {W : World} {r : Go.Reach} {base : Nat} {v : Value} (h : Value.okWide Tryd.prog W r base t v) : v.cells.toList = [v] := by
  unfold Value.okWide at h
  rw [hu] at h
  cases v with
  | agg cs =>
    exfalso
    unfold Cell.okWide at h
    rw [hu] at h
    have h : Cell.ok Tryd.prog W r base t (.agg cs) := h
    unfold Cell.ok at h
    rw [hu] at h
    exact h
  | _ => rfl
set_option maxRecDepth 100000 in
theorem lifted (os : Os) (started : os.Started) (H : Type) (enc : TypeId × Value → H) :
    ReturnsInHanded {} Tryd.checked os 3 .any (fun w args => (Rows.tapesAppendSpec.pre enc Tryd.prog Tryd.f3 [] false w args ∧ laidMetH Tryd.prog laidL w) ∧ sizedMet enc Tryd.prog Tryd.f3 (OpenSpec.ofChange Rows.tapesAppendSpec) false w args)
      (Rows.tapesAppendSpec.post enc Tryd.prog Tryd.f3 false true false false) := by
  refine returnsInHanded_of_change_and (C := Tryd.checked) (X := fun w _ => laidMetH Tryd.prog laidL w) (fun _ _ _ hh h => h.of_heap hh) own started (by kernel_rfl) Tryd.func3
    (ChangeSpec.witness_shaped (enc := enc) (C := Tryd.checked) (os := os) (X := fun w _ => laidMetH Tryd.prog laidL w) false (World.doorLaid Tryd.prog 400 os) #[.slice none 0 0, .slice none 0 0] 8 rfl (World.shaped_of_RefB (by kernel_rfl) (by kernel_rfl)) (by kernel_rfl) (by kernel_rfl) (by kernel_rfl) (door_met os _)) ?_
  intro W base args ds gs before hval0 hW _ _ hL _
  have hval : ∀ (j : Nat) t v, Tryd.f3.params[j]? = some t → args[j]? = some v → Value.okWide Tryd.prog W .any base t v := hval0
  have hW' := hW
  obtain ⟨p, q, hA0, hV, rfl, hfz, hnd⟩ := hW
  have hA : DataW.TrodAll enc Tryd.prog W 0 (fun _ => true) true Tryd.f3.params.toList args.toList ds p := hA0
  rw [Tryd.params3] at hA hval
  obtain ⟨v0, vs0, d0, ds0, p0, q0, hargs, rfl, rfl, h0, r0⟩ := trodAll_cons hA
  obtain ⟨v1, vs1, d1, ds1, p1, q1, rfl, rfl, rfl, h1, r1⟩ := trodAll_cons r0
  obtain ⟨rfl, rfl, rfl⟩ := trodAll_nil r1
  obtain rfl : args = #[v0, v1] := by cases args; simp_all
  obtain ⟨rfl, rfl⟩ := trodVars_none hV
  have lt0 : ∀ x ∈ p0, x.block < W.heap.size := by
    obtain ⟨m, hm⟩ := h0
    exact DataW.trod_lt m _ _ _ hm
  have lt1 : ∀ x ∈ p1, x.block < W.heap.size := by
    obtain ⟨m, hm⟩ := h1
    exact DataW.trod_lt m _ _ _ hm
  clear hA0 hval0
  refine (walk hL h0 (sl_cells u23 (hval 0 23 v0 rfl rfl)) h1 (sl_cells u24 (hval 1 24 v1 rfl rfl))).mono fun e W' ⟨he, bel⟩ => ?_
  subst he
  exact ⟨_, rfl, _, _, _, [], _, [], hW', trodAll_mk1 (shut_bool Tryd.underlying4 _), (trodAll_cons_mk (Below.trod laidOut (by kernel_rfl) (of_decide_eq_true (by kernel_rfl)) h0 bel lt0) (trodAll_cons_mk (Below.trod laidOut (by kernel_rfl) (of_decide_eq_true (by kernel_rfl)) h1 bel lt1) trodAll_mk0)), rfl, bel.frame _, fun h => by cases h⟩
theorem over : Rows.tapesAppendRow.holds Tryd.pinned (OpenSpec.ofChange Rows.tapesAppendSpec) :=
  OpenClaim.holds_of_wide 3 Tryd.f3 rfl rfl rfl rfl rfl rfl rfl ⟨rfl, rfl, rfl, rfl, rfl⟩ rfl rfl rfl rfl rfl (by kernel_rfl) Tryd.func3 (by kernel_rfl)
    (of_decide_eq_true (by kernel_rfl)) (by unfold Func.isWrapper; first | (rw [if_pos (by decide +kernel)]; kernel_rfl) | (rw [if_neg (by decide +kernel)]; exact ⟨rfl, rfl⟩))
    (fun os started H enc _ => lifted os started H enc)
theorem proved : Rows.TapesAppendSaid := over
theorem card : Rows.TapesAppendCardSaid :=
  Claim7.holds_tied_plain_at .later [] [.widerDeep] true (true, "b8797da3a3ff1a24a6a69bbb2529b4c2bb96f728858e077143e83d764cde59be") false
    proved (fun _ h => by cases h) (by kernel_rfl) (fun _ h => by cases h) tapesAppend_row_tie rfl ⟨rfl, rfl⟩ (by kernel_rfl) rfl
    (fun f fn hf hfn => by
      obtain rfl : f = 3 := Option.some.inj ((show Tryd.prog.funcNamed "gansey/ganseylaw11.TapesAppend" = some 3 by kernel_rfl).symm.trans hf) |>.symm
      obtain rfl : fn = Tryd.f3 := (Option.some.inj (Tryd.func3.symm.trans hfn)).symm
      exact ⟨by kernel_rfl, fun j t ht => by
        rw [Tryd.params3] at ht
        have hm : t ∈ [23, 24] := by simpa using Array.mem_of_getElem? ht
        have hall : ([23, 24].all fun u => !Tryd.prog.wantsStandIn u) = true := by kernel_rfl
        exact (show Tryd.prog.wantsStandIn t = false by simpa using List.all_eq_true.1 hall t hm)⟩)
    (by kernel_rfl)
end tapesAppend
/-- The row and its card, under short names, for the claim. -/
theorem tapesAppend_holds : Rows.TapesAppendSaid := tapesAppend.proved
theorem tapesAppendCard_holds : Rows.TapesAppendCardSaid := tapesAppend.card
#print axioms tapesAppend_holds
#print axioms tapesAppendCard_holds
end Go.Proofs.YtdhadannleldiaaDoor
