/- PRINTED by sh.py: shallow forms of functions of the program, each proved equal to what the ghost machine makes of its code. -/
import Derived.Test.YtdhadannleldiaaDoorGkTop
import Derived.Test.YtdhadannleldiaaDoorProg
namespace Go.Proofs.YtdhadannleldiaaDoor
open Go.Gh
set_option linter.unusedVariables false
set_option linter.unusedSimpArgs false
set_option maxRecDepth 100000
noncomputable def g16 {β : Type} (call : Handle) (k : Nat) (p : List Nat) : GA → GH → Kont β → M β := gCode Tryd.prog call k (fAt Tryd.f16 p)
noncomputable def o16 {β : Type} (d : Nat) (call : Handle) (p : List Nat) (i : Nat) : GA → GH → (GA → GH → M β) → M β := gOps Tryd.prog d call (opsAt (fAt Tryd.f16 p)) i ((opsAt (fAt Tryd.f16 p)).drop i)
noncomputable def t16 {β : Type} (d : Nat) (call : Handle) (p : List Nat) (i n : Nat) : GA → GH → (GA → GH → M β) → M β := gOps Tryd.prog d call (opsAt (fAt Tryd.f16 p)) i (((opsAt (fAt Tryd.f16 p)).drop i).take n)
theorem o16_s {β : Type} {d : Nat} {call : Handle} {p : List Nat} {a : GA} {H : GH} {K : GA → GH → M β} (i n : Nat) : o16 d call p i a H K = t16 d call p i n a H fun a H => o16 d call p (i + n) a H K := gOps_split i n
section
variable {β : Type} {call : Handle} {k : Nat} {a : GA} {K : Kont β} {K' : GA → GH → M β}
variable {d : Nat → Value} {xg : Value}
variable {p0 : Value}
variable {v1 v2 v4 v7 : Value}
variable {H H5 H6 : GH}
theorem n16_0 : g16 call k [] a H K = g16 call k [0] a H (hSeq (g16 call k [1]) K) := at_seq (by kernel_rfl)
theorem n16_1 : g16 call k [0] a H K = o16 0 call [0] 0 a H (K .normal) := at_region (by kernel_rfl)
theorem n16_2 : g16 call k [1] a H K = g16 call k [1,0] a H (hSeq (g16 call k [1,1]) K) := at_seq (by kernel_rfl)
theorem n16_3 : g16 call k [1,0] a H K = g16 call k [1,0,0] a H (hSeq (g16 call k [1,0,1]) K) := at_seq (by kernel_rfl)
theorem n16_4 : g16 call k [1,0,0] a H K = o16 0 call [1,0,0] 0 a H (K .normal) := at_region (by kernel_rfl)
theorem n16_5 : g16 call k [1,0,1] a H K = onBool (asB (GA.eval a (.tmp 7))) (g16 call k [1,0,1,0] a H K) (g16 call k [1,0,1,1] a H K) := at_cond (by kernel_rfl)
theorem n16_6 : g16 call k [1,0,1,0] a H K = g16 call k [1,0,1,0,0] a H (hSeq (g16 call k [1,0,1,0,1]) K) := at_seq (by kernel_rfl)
theorem n16_7 : g16 call k [1,0,1,0,0] a H K = o16 0 call [1,0,1,0,0] 0 a H (K .normal) := at_region (by kernel_rfl)
theorem n16_8 : g16 call k [1,0,1,0,1] a H K = K .ret a H := at_ret (by kernel_rfl)
theorem n16_9 : g16 call k [1,0,1,1] a H K = K .normal a H := at_skip (by kernel_rfl)
theorem n16_10 : g16 call k [1,1] a H K = g16 call k [1,1,0] a H (hSeq (g16 call k [1,1,1]) K) := at_seq (by kernel_rfl)
theorem n16_11 : g16 call k [1,1,0] a H K = o16 0 call [1,1,0] 0 a H (K .normal) := at_region (by kernel_rfl)
theorem n16_12 : g16 call k [1,1,1] a H K = g16 call k [1,1,1,0] a H (hSeq (g16 call k [1,1,1,1]) K) := at_seq (by kernel_rfl)
theorem n16_13 : g16 call k [1,1,1,0] a H K = g16 call k [1,1,1,0,0] a H (hSeq (g16 call k [1,1,1,0,1]) K) := at_seq (by kernel_rfl)
theorem n16_14 : g16 call k [1,1,1,0,0] a H K = o16 0 call [1,1,1,0,0] 0 a H (K .normal) := at_region (by kernel_rfl)
theorem n16_15 : g16 call k [1,1,1,0,1] a H K = onBool (asB (GA.eval a (.tmp 12))) (g16 call k [1,1,1,0,1,0] a H K) (g16 call k [1,1,1,0,1,1] a H K) := at_cond (by kernel_rfl)
theorem n16_16 : g16 call k [1,1,1,0,1,0] a H K = g16 call k [1,1,1,0,1,0,0] a H (hSeq (g16 call k [1,1,1,0,1,0,1]) K) := at_seq (by kernel_rfl)
theorem n16_17 : g16 call k [1,1,1,0,1,0,0] a H K = o16 0 call [1,1,1,0,1,0,0] 0 a H (K .normal) := at_region (by kernel_rfl)
theorem n16_18 : g16 call k [1,1,1,0,1,0,1] a H K = K .ret a H := at_ret (by kernel_rfl)
theorem n16_19 : g16 call k [1,1,1,0,1,1] a H K = K .normal a H := at_skip (by kernel_rfl)
theorem n16_20 : g16 call k [1,1,1,1] a H K = g16 call k [1,1,1,1,0] a H (hSeq (g16 call k [1,1,1,1,1]) K) := at_seq (by kernel_rfl)
theorem n16_21 : g16 call k [1,1,1,1,0] a H K = o16 3 call [1,1,1,1,0] 0 a H (K .normal) := at_region (by kernel_rfl)
theorem n16_22 : g16 call k [1,1,1,1,1] a H K = K .ret a H := at_ret (by kernel_rfl)
theorem s16_0 : o16 0 call [0] 0 (FG 17 (fun _ => undef) [(0, p0)]) H K' =
  K' (FG 17 (fun _ => undef) [(3, (.int .i64 0)), (2, (.pointer (some ⟨H.n, 0, none⟩))), (0, p0)]) (GH.push H (.row [(.slice none 0 0), (.bool false), (.bool false), (.int .i64 0)] 55 false)) := by kernel_rfl
theorem s16_1 : o16 0 call [1,0,0] 0 (FG 17 (fun _ => undef) [(3, (.int .i64 0)), (2, (.pointer (some ⟨H.n, 0, none⟩))), (0, p0)]) (GH.push H (.row [(.slice none 0 0), (.bool false), (.bool false), (.int .i64 0)] 55 false)) K' =
  onV (oLen Tryd.prog 24 p0) fun v1 =>
  onV ((oBin Tryd.prog .eql 3 v1 (.int .i64 0)).filter closed) fun v2 =>
  K' (FG 17 (fun _ => undef) [(7, v2), (6, v1), (5, p0), (3, (.int .i64 0)), (2, (.pointer (some ⟨H.n, 0, none⟩))), (0, p0)]) (GH.push H (.row [(.slice none 0 0), (.bool false), (.bool false), (.int .i64 0)] 55 false)) := by kernel_rfl
theorem s16_2 : o16 0 call [1,0,1,0,0] 0 (FG 17 (fun _ => undef) [(7, v2), (6, v1), (5, p0), (3, (.int .i64 0)), (2, (.pointer (some ⟨H.n, 0, none⟩))), (0, p0)]) (GH.push H (.row [(.slice none 0 0), (.bool false), (.bool false), (.int .i64 0)] 55 false)) K' =
  onH (gStore Tryd.prog 55 (.pointer (some ⟨H.n, 0, none⟩)) (.agg #[(.slice none 0 0), (.bool true), (.bool false), (.int .i64 0)]) (GH.push H (.row [(.slice none 0 0), (.bool false), (.bool false), (.int .i64 0)] 55 false))) fun H3 =>
  K' (FG 17 (fun _ => undef) [(3, (.int .i64 0)), (8, (.agg #[(.slice none 0 0), (.bool true), (.bool false), (.int .i64 0)])), (7, v2), (6, v1), (5, p0), (3, (.int .i64 0)), (2, (.pointer (some ⟨H.n, 0, none⟩))), (0, p0)]) H3 := by kernel_rfl
theorem s16_3 : o16 0 call [1,1,0] 0 (FG 17 (fun _ => undef) [(7, v2), (6, v1), (5, p0), (3, (.int .i64 0)), (2, (.pointer (some ⟨H.n, 0, none⟩))), (0, p0)]) (GH.push H (.row [(.slice none 0 0), (.bool false), (.bool false), (.int .i64 0)] 55 false)) K' =
  onCall 0 call (.func (.func 23) #[] #[]) [p0] (GH.push H (.row [(.slice none 0 0), (.bool false), (.bool false), (.int .i64 0)] 55 false)) fun v4 H5 =>
  onH (gStore Tryd.prog 55 (.pointer (some ⟨H5.n, 0, none⟩)) v4 (GH.push H5 (.row [(.slice none 0 0), (.bool false), (.bool false), (.int .i64 0)] 55 false))) fun H6 =>
  K' (FG 17 (fun _ => undef) [(4, (.pointer (some ⟨H5.n, 0, none⟩))), (10, v4), (9, p0), (7, v2), (6, v1), (5, p0), (3, (.int .i64 0)), (2, (.pointer (some ⟨H.n, 0, none⟩))), (0, p0)]) H6 := by kernel_rfl
theorem s16_4 : o16 0 call [1,1,1,0,0] 0 (FG 17 (fun _ => undef) [(4, (.pointer (some ⟨H5.n, 0, none⟩))), (10, v4), (9, p0), (7, v2), (6, v1), (5, p0), (3, (.int .i64 0)), (2, (.pointer (some ⟨H.n, 0, none⟩))), (0, p0)]) H6 K' =
  onV (gLoad Tryd.prog 4 (.pointer (some ⟨H5.n, 2, none⟩)) H6) fun v7 =>
  K' (FG 17 (fun _ => undef) [(12, v7), (11, (.pointer (some ⟨H5.n, 2, none⟩))), (4, (.pointer (some ⟨H5.n, 0, none⟩))), (10, v4), (9, p0), (7, v2), (6, v1), (5, p0), (3, (.int .i64 0)), (2, (.pointer (some ⟨H.n, 0, none⟩))), (0, p0)]) H6 := by kernel_rfl
theorem s16_5 : o16 0 call [1,1,1,0,1,0,0] 0 (FG 17 (fun _ => undef) [(12, v7), (11, (.pointer (some ⟨H5.n, 2, none⟩))), (4, (.pointer (some ⟨H5.n, 0, none⟩))), (10, v4), (9, p0), (7, v2), (6, v1), (5, p0), (3, (.int .i64 0)), (2, (.pointer (some ⟨H.n, 0, none⟩))), (0, p0)]) H6 K' =
  onH (gStore Tryd.prog 55 (.pointer (some ⟨H.n, 0, none⟩)) (.agg #[(.slice none 0 0), (.bool false), (.bool false), (.int .i64 0)]) H6) fun H8 =>
  K' (FG 17 (fun _ => undef) [(3, (.int .i64 6)), (13, (.agg #[(.slice none 0 0), (.bool false), (.bool false), (.int .i64 0)])), (12, v7), (11, (.pointer (some ⟨H5.n, 2, none⟩))), (4, (.pointer (some ⟨H5.n, 0, none⟩))), (10, v4), (9, p0), (7, v2), (6, v1), (5, p0), (3, (.int .i64 0)), (2, (.pointer (some ⟨H.n, 0, none⟩))), (0, p0)]) H8 := by kernel_rfl
theorem s16_6 : o16 3 call [1,1,1,1,0] 0 (FF 17 d) H K' =
  onV (gLoad Tryd.prog 55 (d 4) H) fun v1 =>
  onV (oFieldAddr Tryd.prog 55 (d 4) 3) fun v2 =>
  onV (gLoad Tryd.prog 28 v2 H) fun v3 =>
  onClosed true v3 <|
  onH (gStore Tryd.prog 55 (d 2) v1 H) fun H4 =>
  onSame (gLoad Tryd.prog 28 v2 H) (gLoad Tryd.prog 28 v2 H4) <|
  K' (FG 17 d [(3, v3), (16, v3), (15, v2), (14, v1)]) H4 := by kernel_rfl
noncomputable def f16_r6 (call : Handle) (k : Nat) (x2 x4 : Value) (H : GH) : M (Value × GH) :=
  onV (gLoad Tryd.prog 55 x4 H) fun v1 =>
  onV (oFieldAddr Tryd.prog 55 x4 3) fun v2 =>
  onV (gLoad Tryd.prog 28 v2 H) fun v3 =>
  onClosed true v3 <|
  onH (gStore Tryd.prog 55 x2 v1 H) fun H4 =>
  onSame (gLoad Tryd.prog 28 v2 H) (gLoad Tryd.prog 28 v2 H4) <|
  onV (gResL Tryd.prog H4 [(x2, some 55), (v3, none)]) fun v => some [(v, H4)]
theorem f16_r6_eq (call : Handle) (k : Nat) : g16 call k [1,1,1,1,0] (FF 17 d) H (hSeq (g16 call k [1,1,1,1,1]) (hFin Tryd.prog Tryd.f16)) = f16_r6 call k (d 2) (d 4) H := by
  unfold f16_r6
  rw [n16_21]
  rw [s16_6]
  refine onV_c fun v1 => ?_
  refine onV_c fun v2 => ?_
  refine onV_c fun v3 => ?_
  refine onClosed_c ?_
  refine onH_c fun H4 => ?_
  refine onSame_c ?_
  rw [hSeq_n]
  rw [n16_22]
  kernel_rfl
noncomputable def f16_sh (call : Handle) (k : Nat) (p0 : Value) (H : GH) : M (Value × GH) :=
  onV (oLen Tryd.prog 24 p0) fun v1 =>
  onV ((oBin Tryd.prog .eql 3 v1 (.int .i64 0)).filter closed) fun v2 =>
  onBool (asB v2)
  (onH (gStore Tryd.prog 55 (.pointer (some ⟨H.n, 0, none⟩)) (.agg #[(.slice none 0 0), (.bool true), (.bool false), (.int .i64 0)]) (GH.push H (.row [(.slice none 0 0), (.bool false), (.bool false), (.int .i64 0)] 55 false))) fun H3 =>
  onV (gResL Tryd.prog H3 [((.pointer (some ⟨H.n, 0, none⟩)), some 55), ((.int .i64 0), none)]) fun v => some [(v, H3)])
  (onCall 0 call (.func (.func 23) #[] #[]) [p0] (GH.push H (.row [(.slice none 0 0), (.bool false), (.bool false), (.int .i64 0)] 55 false)) fun v4 H5 =>
  onH (gStore Tryd.prog 55 (.pointer (some ⟨H5.n, 0, none⟩)) v4 (GH.push H5 (.row [(.slice none 0 0), (.bool false), (.bool false), (.int .i64 0)] 55 false))) fun H6 =>
  onV (gLoad Tryd.prog 4 (.pointer (some ⟨H5.n, 2, none⟩)) H6) fun v7 =>
  onBool (asB v7)
  (onH (gStore Tryd.prog 55 (.pointer (some ⟨H.n, 0, none⟩)) (.agg #[(.slice none 0 0), (.bool false), (.bool false), (.int .i64 0)]) H6) fun H8 =>
  onV (gResL Tryd.prog H8 [((.pointer (some ⟨H.n, 0, none⟩)), some 55), ((.int .i64 6), none)]) fun v => some [(v, H8)])
  ((f16_r6 call k (.pointer (some ⟨H.n, 0, none⟩)) (.pointer (some ⟨H5.n, 0, none⟩)) H6)))
theorem f16_run (call : Handle) (k : Nat) (p0 : Value) (H : GH) : g16 call k [] (FG 17 (fun _ => undef) [(0, p0)]) H (hFin Tryd.prog Tryd.f16) = f16_sh call k p0 H := by
  unfold f16_sh
  rw [n16_0]
  rw [n16_1]
  rw [s16_0]
  rw [hSeq_n]
  rw [n16_2]
  rw [n16_3]
  rw [n16_4]
  rw [s16_1]
  refine onV_c fun v1 => ?_
  refine onV_c fun v2 => ?_
  rw [hSeq_n]
  rw [n16_5]
  refine onBool_cc (by kernel_rfl) ?_ ?_
  · rw [n16_6]
    rw [n16_7]
    rw [s16_2]
    refine onH_c fun H3 => ?_
    rw [hSeq_n]
    rw [n16_8]
    rw [hSeq_r]
    kernel_rfl
  · rw [n16_9]
    rw [hSeq_n]
    rw [n16_10]
    rw [n16_11]
    rw [s16_3]
    refine onCall_c fun v4 H5 => ?_
    refine onH_c fun H6 => ?_
    rw [hSeq_n]
    rw [n16_12]
    rw [n16_13]
    rw [n16_14]
    rw [s16_4]
    refine onV_c fun v7 => ?_
    rw [hSeq_n]
    rw [n16_15]
    refine onBool_cc (by kernel_rfl) ?_ ?_
    · rw [n16_16]
      rw [n16_17]
      rw [s16_5]
      refine onH_c fun H8 => ?_
      rw [hSeq_n]
      rw [n16_18]
      rw [hSeq_r]
      kernel_rfl
    · rw [n16_19]
      rw [hSeq_n]
      rw [n16_20]
      generalize e : (FG 17 (fun _ => undef) [(12, v7), (11, (.pointer (some ⟨H5.n, 2, none⟩))), (4, (.pointer (some ⟨H5.n, 0, none⟩))), (10, v4), (9, p0), (7, v2), (6, v1), (5, p0), (3, (.int .i64 0)), (2, (.pointer (some ⟨H.n, 0, none⟩))), (0, p0)]) = a
      rw [show a = (FF 17 (gf a)) from (FF_gf (by subst e; exact FG_len)).symm]
      exact (f16_r6_eq (d := gf a) call k).trans (by subst e; kernel_rfl)
theorem f16_eq (call : Handle) (k : Nat) (p0 : Value) (H : GH) : gFunc Tryd.prog call k Tryd.f16 [p0] H = f16_sh call k p0 H :=
  Eq.trans (by kernel_rfl) (f16_run call k p0 H)
end
noncomputable def g17 {β : Type} (call : Handle) (k : Nat) (p : List Nat) : GA → GH → Kont β → M β := gCode Tryd.prog call k (fAt Tryd.f17 p)
noncomputable def o17 {β : Type} (d : Nat) (call : Handle) (p : List Nat) (i : Nat) : GA → GH → (GA → GH → M β) → M β := gOps Tryd.prog d call (opsAt (fAt Tryd.f17 p)) i ((opsAt (fAt Tryd.f17 p)).drop i)
noncomputable def t17 {β : Type} (d : Nat) (call : Handle) (p : List Nat) (i n : Nat) : GA → GH → (GA → GH → M β) → M β := gOps Tryd.prog d call (opsAt (fAt Tryd.f17 p)) i (((opsAt (fAt Tryd.f17 p)).drop i).take n)
theorem o17_s {β : Type} {d : Nat} {call : Handle} {p : List Nat} {a : GA} {H : GH} {K : GA → GH → M β} (i n : Nat) : o17 d call p i a H K = t17 d call p i n a H fun a H => o17 d call p (i + n) a H K := gOps_split i n
section
variable {β : Type} {call : Handle} {k : Nat} {a : GA} {K : Kont β} {K' : GA → GH → M β}
variable {d : Nat → Value} {xg : Value}
variable {p0 : Value}
variable {v1 v2 v3 v5 v6 v8 : Value}
variable {H H4 H7 : GH}
theorem n17_0 : g17 call k [] a H K = g17 call k [0] a H (hSeq (g17 call k [1]) K) := at_seq (by kernel_rfl)
theorem n17_1 : g17 call k [0] a H K = o17 0 call [0] 0 a H (K .normal) := at_region (by kernel_rfl)
theorem n17_2 : g17 call k [1] a H K = g17 call k [1,0] a H (hSeq (g17 call k [1,1]) K) := at_seq (by kernel_rfl)
theorem n17_3 : g17 call k [1,0] a H K = g17 call k [1,0,0] a H (hSeq (g17 call k [1,0,1]) K) := at_seq (by kernel_rfl)
theorem n17_4 : g17 call k [1,0,0] a H K = o17 0 call [1,0,0] 0 a H (K .normal) := at_region (by kernel_rfl)
theorem n17_5 : g17 call k [1,0,1] a H K = g17 call k [1,0,1,0] a H (hBlock 0 K) := at_block (by kernel_rfl)
theorem n17_6 : g17 call k [1,0,1,0] a H K = gLoop (g17 call k [1,0,1,0,0]) K k a H := at_loop (by kernel_rfl)
theorem n17_7 : g17 call k [1,0,1,0,0] a H K = g17 call k [1,0,1,0,0,0] a H (hSeq (g17 call k [1,0,1,0,0,1]) K) := at_seq (by kernel_rfl)
theorem n17_8 : g17 call k [1,0,1,0,0,0] a H K = o17 0 call [1,0,1,0,0,0] 0 a H (K .normal) := at_region (by kernel_rfl)
theorem n17_9 : g17 call k [1,0,1,0,0,1] a H K = g17 call k [1,0,1,0,0,1,0] a H (hSeq (g17 call k [1,0,1,0,0,1,1]) K) := at_seq (by kernel_rfl)
theorem n17_10 : g17 call k [1,0,1,0,0,1,0] a H K = onBool (asB (GA.eval a (.tmp 9))) (g17 call k [1,0,1,0,0,1,0,0] a H K) (g17 call k [1,0,1,0,0,1,0,1] a H K) := at_cond (by kernel_rfl)
theorem n17_11 : g17 call k [1,0,1,0,0,1,0,0] a H K = K .normal a H := at_skip (by kernel_rfl)
theorem n17_12 : g17 call k [1,0,1,0,0,1,1] a H K = g17 call k [1,0,1,0,0,1,1,0] a H (hSeq (g17 call k [1,0,1,0,0,1,1,1]) K) := at_seq (by kernel_rfl)
theorem n17_13 : g17 call k [1,0,1,0,0,1,1,0] a H K = g17 call k [1,0,1,0,0,1,1,0,0] a H (hBlock 1 K) := at_block (by kernel_rfl)
theorem n17_14 : g17 call k [1,0,1,0,0,1,1,0,0] a H K = g17 call k [1,0,1,0,0,1,1,0,0,0] a H (hSeq (g17 call k [1,0,1,0,0,1,1,0,0,1]) K) := at_seq (by kernel_rfl)
theorem n17_15 : g17 call k [1,0,1,0,0,1,1,0,0,0] a H K = o17 0 call [1,0,1,0,0,1,1,0,0,0] 0 a H (K .normal) := at_region (by kernel_rfl)
theorem n17_16 : g17 call k [1,0,1,0,0,1,1,0,0,1] a H K = g17 call k [1,0,1,0,0,1,1,0,0,1,0] a H (hSeq (g17 call k [1,0,1,0,0,1,1,0,0,1,1]) K) := at_seq (by kernel_rfl)
theorem n17_17 : g17 call k [1,0,1,0,0,1,1,0,0,1,0] a H K = o17 0 call [1,0,1,0,0,1,1,0,0,1,0] 0 a H (K .normal) := at_region (by kernel_rfl)
theorem n17_18 : g17 call k [1,0,1,0,0,1,1,0,0,1,1] a H K = g17 call k [1,0,1,0,0,1,1,0,0,1,1,0] a H (hSeq (g17 call k [1,0,1,0,0,1,1,0,0,1,1,1]) K) := at_seq (by kernel_rfl)
theorem n17_19 : g17 call k [1,0,1,0,0,1,1,0,0,1,1,0] a H K = o17 0 call [1,0,1,0,0,1,1,0,0,1,1,0] 0 a H (K .normal) := at_region (by kernel_rfl)
theorem n17_20 : g17 call k [1,0,1,0,0,1,1,0,0,1,1,1] a H K = onBool (asB (GA.eval a (.tmp 15))) (g17 call k [1,0,1,0,0,1,1,0,0,1,1,1,0] a H K) (g17 call k [1,0,1,0,0,1,1,0,0,1,1,1,1] a H K) := at_cond (by kernel_rfl)
theorem n17_21 : g17 call k [1,0,1,0,0,1,1,0,0,1,1,1,0] a H K = g17 call k [1,0,1,0,0,1,1,0,0,1,1,1,0,0] a H (hSeq (g17 call k [1,0,1,0,0,1,1,0,0,1,1,1,0,1]) K) := at_seq (by kernel_rfl)
theorem n17_22 : g17 call k [1,0,1,0,0,1,1,0,0,1,1,1,0,0] a H K = o17 0 call [1,0,1,0,0,1,1,0,0,1,1,1,0,0] 0 a H (K .normal) := at_region (by kernel_rfl)
theorem n17_23 : g17 call k [1,0,1,0,0,1,1,0,0,1,1,1,0,1] a H K = K .ret a H := at_ret (by kernel_rfl)
theorem n17_24 : g17 call k [1,0,1,0,0,1,1,0,0,1,1,1,1] a H K = K .normal a H := at_skip (by kernel_rfl)
theorem n17_25 : g17 call k [1,0,1,0,0,1,1,1] a H K = o17 0 call [1,0,1,0,0,1,1,1] 0 a H (K .normal) := at_region (by kernel_rfl)
theorem n17_26 : g17 call k [1,0,1,0,0,1,0,1] a H K = K (.exit 0) a H := at_exit (by kernel_rfl)
theorem n17_27 : g17 call k [1,1] a H K = g17 call k [1,1,0] a H (hSeq (g17 call k [1,1,1]) K) := at_seq (by kernel_rfl)
theorem n17_28 : g17 call k [1,1,0] a H K = o17 0 call [1,1,0] 0 a H (K .normal) := at_region (by kernel_rfl)
theorem n17_29 : g17 call k [1,1,1] a H K = K .ret a H := at_ret (by kernel_rfl)
theorem s17_0 : o17 0 call [0] 0 (FG 18 (fun _ => undef) [(0, p0)]) H K' =
  K' (FG 18 (fun _ => undef) [(2, (.int .i64 0)), (0, p0)]) H := by kernel_rfl
theorem s17_1 : o17 0 call [1,0,0] 0 (FG 18 (fun _ => undef) [(2, (.int .i64 0)), (0, p0)]) H K' =
  onV (oLen Tryd.prog 26 p0) fun v1 =>
  K' (FG 18 (fun _ => undef) [(8, (.int .i64 0)), (7, v1), (6, p0), (2, (.int .i64 0)), (0, p0)]) H := by kernel_rfl
theorem s17_2 : o17 0 call [1,0,1,0,0,0] 0 (FF 18 d) H K' =
  onV ((oBin Tryd.prog .lss 3 (d 8) (d 7)).filter closed) fun v1 =>
  K' (FG 18 d [(9, v1)]) H := by kernel_rfl
theorem s17_3 : o17 0 call [1,0,1,0,0,1,1,0,0,0] 0 (FG 18 d [(9, v1)]) H K' =
  onV (oIndexAddr Tryd.prog 26 (d 6) (d 8)) fun v2 =>
  onV (gLoad Tryd.prog 48 v2 H) fun v3 =>
  onH (gStore Tryd.prog 48 (.pointer (some ⟨H.n, 0, none⟩)) v3 (GH.push H (.row [(.int .u8 0), (.int .u8 0), (.int .u8 0), (.int .i64 0), (.int .u8 0), (.int .i64 0)] 48 false))) fun H4 =>
  K' (FG 18 d [(4, (.pointer (some ⟨H.n, 0, none⟩))), (11, v3), (10, v2), (9, v1)]) H4 := by kernel_rfl
theorem s17_4 : o17 0 call [1,0,1,0,0,1,1,0,0,1,0] 0 (FG 18 d [(4, (.pointer (some ⟨H.n, 0, none⟩))), (11, v3), (10, v2), (9, v1)]) H4 K' =
  onV (gLoad Tryd.prog 48 (.pointer (some ⟨H.n, 0, none⟩)) H4) fun v5 =>
  onCall 0 call (.func (.func 25) #[] #[]) [v5] H4 fun v6 H7 =>
  K' (FG 18 d [(5, v6), (13, v6), (12, v5), (4, (.pointer (some ⟨H.n, 0, none⟩))), (11, v3), (10, v2), (9, v1)]) H7 := by kernel_rfl
theorem s17_5 : o17 0 call [1,0,1,0,0,1,1,0,0,1,1,0] 0 (FG 18 d [(5, v6), (13, v6), (12, v5), (4, (.pointer (some ⟨H.n, 0, none⟩))), (11, v3), (10, v2), (9, v1)]) H7 K' =
  onV ((oBin Tryd.prog .neq 28 v6 (.int .i64 0)).filter closed) fun v8 =>
  K' (FG 18 d [(15, v8), (14, v6), (5, v6), (13, v6), (12, v5), (4, (.pointer (some ⟨H.n, 0, none⟩))), (11, v3), (10, v2), (9, v1)]) H7 := by kernel_rfl
theorem s17_6 : o17 0 call [1,0,1,0,0,1,1,0,0,1,1,1,0,0] 0 (FG 18 d [(15, v8), (14, v6), (5, v6), (13, v6), (12, v5), (4, (.pointer (some ⟨H.n, 0, none⟩))), (11, v3), (10, v2), (9, v1)]) H7 K' =
  K' (FG 18 d [(2, v6), (16, v6), (15, v8), (14, v6), (5, v6), (13, v6), (12, v5), (4, (.pointer (some ⟨H.n, 0, none⟩))), (11, v3), (10, v2), (9, v1)]) H7 := by kernel_rfl
theorem s17_7 : o17 0 call [1,0,1,0,0,1,1,1] 0 (FG 18 d [(15, v8), (14, v6), (5, v6), (13, v6), (12, v5), (4, (.pointer (some ⟨H.n, 0, none⟩))), (11, v3), (10, v2), (9, v1)]) H7 K' =
  onV ((oBin Tryd.prog .add 3 (d 8) (.int .i64 1)).filter closed) fun v9 =>
  K' (FG 18 d [(8, v9), (17, v9), (15, v8), (14, v6), (5, v6), (13, v6), (12, v5), (4, (.pointer (some ⟨H.n, 0, none⟩))), (11, v3), (10, v2), (9, v1)]) H7 := by kernel_rfl
theorem s17_8 : o17 0 call [1,1,0] 0 (FG 18 d [(9, v1)]) H K' =
  K' (FG 18 d [(2, (.int .i64 0)), (9, v1)]) H := by kernel_rfl
def f17_l2_P (ag : AG) (sg : Sg3) : Prop := ∀ (d : Nat → Value) (H : GH), ag (FF 18 d) H = sg (d 6) (d 7) (d 8) H
theorem f17_l2_at {ag : AG} {sg : Sg3} (h : f17_l2_P ag sg) : ag (FF 18 d) H = sg (d 6) (d 7) (d 8) H := h d H
noncomputable def f17_l2b (call : Handle) (k : Nat) (sg_l2 : Sg3) (x6 x7 x8 : Value) (H : GH) : M (Value × GH) :=
  onV ((oBin Tryd.prog .lss 3 x8 x7).filter closed) fun v1 =>
  onBool (asB v1)
  (onV (oIndexAddr Tryd.prog 26 x6 x8) fun v2 =>
  onV (gLoad Tryd.prog 48 v2 H) fun v3 =>
  onH (gStore Tryd.prog 48 (.pointer (some ⟨H.n, 0, none⟩)) v3 (GH.push H (.row [(.int .u8 0), (.int .u8 0), (.int .u8 0), (.int .i64 0), (.int .u8 0), (.int .i64 0)] 48 false))) fun H4 =>
  onV (gLoad Tryd.prog 48 (.pointer (some ⟨H.n, 0, none⟩)) H4) fun v5 =>
  onCall 0 call (.func (.func 25) #[] #[]) [v5] H4 fun v6 H7 =>
  onV ((oBin Tryd.prog .neq 28 v6 (.int .i64 0)).filter closed) fun v8 =>
  onBool (asB v8)
  (some [(v6, H7)])
  (onV ((oBin Tryd.prog .add 3 x8 (.int .i64 1)).filter closed) fun v9 =>
  (sg_l2 x6 x7 v9 H7)))
  (some [((.int .i64 0), H)])
theorem f17_l2b_eq (call : Handle) (k : Nat) (ag_l2 : AG) (sg_l2 : Sg3) (h_l2 : f17_l2_P ag_l2 sg_l2) : g17 call k [1,0,1,0,0] (FF 18 d) H (hLoop ag_l2 (hBlock 0 (hSeq (g17 call k [1,1]) (hFin Tryd.prog Tryd.f17)))) = f17_l2b call k sg_l2 (d 6) (d 7) (d 8) H := by
  unfold f17_l2b
  rw [n17_7]
  rw [n17_8]
  rw [s17_2]
  refine onV_c fun v1 => ?_
  rw [hSeq_n]
  rw [n17_9]
  rw [n17_10]
  refine onBool_cc (by kernel_rfl) ?_ ?_
  · rw [n17_11]
    rw [hSeq_n]
    rw [n17_12]
    rw [n17_13]
    rw [n17_14]
    rw [n17_15]
    rw [s17_3]
    refine onV_c fun v2 => ?_
    refine onV_c fun v3 => ?_
    refine onH_c fun H4 => ?_
    rw [hSeq_n]
    rw [n17_16]
    rw [n17_17]
    rw [s17_4]
    refine onV_c fun v5 => ?_
    refine onCall_c fun v6 H7 => ?_
    rw [hSeq_n]
    rw [n17_18]
    rw [n17_19]
    rw [s17_5]
    refine onV_c fun v8 => ?_
    rw [hSeq_n]
    rw [n17_20]
    refine onBool_cc (by kernel_rfl) ?_ ?_
    · rw [n17_21]
      rw [n17_22]
      rw [s17_6]
      rw [hSeq_n]
      rw [n17_23]
      rw [hBlock_r, hSeq_r, hLoop_r, hBlock_r, hSeq_r]
      kernel_rfl
    · rw [n17_24]
      rw [hBlock_n]
      rw [hSeq_n]
      rw [n17_25]
      rw [s17_7]
      refine onV_c fun v9 => ?_
      rw [hLoop_n]
      generalize e : (FG 18 d [(8, v9), (17, v9), (15, v8), (14, v6), (5, v6), (13, v6), (12, v5), (4, (.pointer (some ⟨H.n, 0, none⟩))), (11, v3), (10, v2), (9, v1)]) = a
      rw [show a = (FF 18 (gf a)) from (FF_gf (by subst e; exact FG_len)).symm]
      exact (f17_l2_at (d := gf a) h_l2).trans (by subst e; kernel_rfl)
  · rw [n17_26]
    rw [hSeq_e, hLoop_e, hBlock_hit]
    rw [hSeq_n]
    rw [n17_27]
    rw [n17_28]
    rw [s17_8]
    rw [hSeq_n]
    rw [n17_29]
    kernel_rfl
noncomputable def f17_l2 (call : Handle) (k : Nat) : Nat → Value → Value → Value → GH → M (Value × GH)
  | 0, _, _, _, _ => none
  | r + 1, x6, x7, x8, H => f17_l2b call k (f17_l2 call k r) x6 x7 x8 H
theorem f17_l2_eq (call : Handle) (k : Nat) : ∀ (r : Nat), f17_l2_P (gLoop (g17 call k [1,0,1,0,0]) (hBlock 0 (hSeq (g17 call k [1,1]) (hFin Tryd.prog Tryd.f17))) r) (f17_l2 call k r) := by
  intro r
  induction r with
  | zero => unfold f17_l2_P; intros; rfl
  | succ r ih => unfold f17_l2_P; intros; exact f17_l2b_eq call k _ _ ih
noncomputable def f17_sh (call : Handle) (k : Nat) (p0 : Value) (H : GH) : M (Value × GH) :=
  onV (oLen Tryd.prog 26 p0) fun v1 =>
  (f17_l2 call k k p0 v1 (.int .i64 0) H)
theorem f17_run (call : Handle) (k : Nat) (p0 : Value) (H : GH) : g17 call k [] (FG 18 (fun _ => undef) [(0, p0)]) H (hFin Tryd.prog Tryd.f17) = f17_sh call k p0 H := by
  unfold f17_sh
  rw [n17_0]
  rw [n17_1]
  rw [s17_0]
  rw [hSeq_n]
  rw [n17_2]
  rw [n17_3]
  rw [n17_4]
  rw [s17_1]
  refine onV_c fun v1 => ?_
  rw [hSeq_n]
  rw [n17_5]
  rw [n17_6]
  generalize e : (FG 18 (fun _ => undef) [(8, (.int .i64 0)), (7, v1), (6, p0), (2, (.int .i64 0)), (0, p0)]) = a
  rw [show a = (FF 18 (gf a)) from (FF_gf (by subst e; exact FG_len)).symm]
  exact (f17_l2_at (d := gf a) (f17_l2_eq call k k)).trans (by subst e; kernel_rfl)
theorem f17_eq (call : Handle) (k : Nat) (p0 : Value) (H : GH) : gFunc Tryd.prog call k Tryd.f17 [p0] H = f17_sh call k p0 H :=
  Eq.trans (by kernel_rfl) (f17_run call k p0 H)
end
noncomputable def g18 {β : Type} (call : Handle) (k : Nat) (p : List Nat) : GA → GH → Kont β → M β := gCode Tryd.prog call k (fAt Tryd.f18 p)
noncomputable def o18 {β : Type} (d : Nat) (call : Handle) (p : List Nat) (i : Nat) : GA → GH → (GA → GH → M β) → M β := gOps Tryd.prog d call (opsAt (fAt Tryd.f18 p)) i ((opsAt (fAt Tryd.f18 p)).drop i)
noncomputable def t18 {β : Type} (d : Nat) (call : Handle) (p : List Nat) (i n : Nat) : GA → GH → (GA → GH → M β) → M β := gOps Tryd.prog d call (opsAt (fAt Tryd.f18 p)) i (((opsAt (fAt Tryd.f18 p)).drop i).take n)
theorem o18_s {β : Type} {d : Nat} {call : Handle} {p : List Nat} {a : GA} {H : GH} {K : GA → GH → M β} (i n : Nat) : o18 d call p i a H K = t18 d call p i n a H fun a H => o18 d call p (i + n) a H K := gOps_split i n
section
variable {β : Type} {call : Handle} {k : Nat} {a : GA} {K : Kont β} {K' : GA → GH → M β}
variable {d : Nat → Value} {xg : Value}
variable {p0 : Value}
variable {v1 : Value}
variable {H : GH}
theorem n18_0 : g18 call k [] a H K = g18 call k [0] a H (hSeq (g18 call k [1]) K) := at_seq (by kernel_rfl)
theorem n18_1 : g18 call k [0] a H K = o18 0 call [0] 0 a H (K .normal) := at_region (by kernel_rfl)
theorem n18_2 : g18 call k [1] a H K = g18 call k [1,0] a H (hSeq (g18 call k [1,1]) K) := at_seq (by kernel_rfl)
theorem n18_3 : g18 call k [1,0] a H K = g18 call k [1,0,0] a H (hSeq (g18 call k [1,0,1]) K) := at_seq (by kernel_rfl)
theorem n18_4 : g18 call k [1,0,0] a H K = o18 0 call [1,0,0] 0 a H (K .normal) := at_region (by kernel_rfl)
theorem n18_5 : g18 call k [1,0,1] a H K = onBool (asB (GA.eval a (.tmp 4))) (g18 call k [1,0,1,0] a H K) (g18 call k [1,0,1,1] a H K) := at_cond (by kernel_rfl)
theorem n18_6 : g18 call k [1,0,1,0] a H K = g18 call k [1,0,1,0,0] a H (hSeq (g18 call k [1,0,1,0,1]) K) := at_seq (by kernel_rfl)
theorem n18_7 : g18 call k [1,0,1,0,0] a H K = o18 0 call [1,0,1,0,0] 0 a H (K .normal) := at_region (by kernel_rfl)
theorem n18_8 : g18 call k [1,0,1,0,1] a H K = K .ret a H := at_ret (by kernel_rfl)
theorem n18_9 : g18 call k [1,0,1,1] a H K = K .normal a H := at_skip (by kernel_rfl)
theorem n18_10 : g18 call k [1,1] a H K = g18 call k [1,1,0] a H (hSeq (g18 call k [1,1,1]) K) := at_seq (by kernel_rfl)
theorem n18_11 : g18 call k [1,1,0] a H K = o18 0 call [1,1,0] 0 a H (K .normal) := at_region (by kernel_rfl)
theorem n18_12 : g18 call k [1,1,1] a H K = K .ret a H := at_ret (by kernel_rfl)
theorem s18_0 : o18 0 call [0] 0 (FG 8 (fun _ => undef) [(0, p0)]) H K' =
  K' (FG 8 (fun _ => undef) [(2, (.slice none 0 0)), (0, p0)]) H := by kernel_rfl
theorem s18_1 : o18 0 call [1,0,0] 0 (FG 8 (fun _ => undef) [(2, (.slice none 0 0)), (0, p0)]) H K' =
  onV ((oBin Tryd.prog .eql 24 p0 (.slice none 0 0)).filter closed) fun v1 =>
  K' (FG 8 (fun _ => undef) [(4, v1), (3, p0), (2, (.slice none 0 0)), (0, p0)]) H := by kernel_rfl
theorem s18_2 : o18 0 call [1,0,1,0,0] 0 (FG 8 (fun _ => undef) [(4, v1), (3, p0), (2, (.slice none 0 0)), (0, p0)]) H K' =
  K' (FG 8 (fun _ => undef) [(2, (.slice none 0 0)), (4, v1), (3, p0), (2, (.slice none 0 0)), (0, p0)]) H := by kernel_rfl
theorem s18_3 : o18 0 call [1,1,0] 0 (FG 8 (fun _ => undef) [(4, v1), (3, p0), (2, (.slice none 0 0)), (0, p0)]) H K' =
  onVH (gBuildSlice Tryd.prog 24 0 [] H) fun v2 H3 =>
  onVH (gAppend Tryd.prog 24 24 v2 p0 H3) fun v4 H5 =>
  K' (FG 8 (fun _ => undef) [(2, v4), (7, v4), (6, p0), (5, v2), (4, v1), (3, p0), (2, (.slice none 0 0)), (0, p0)]) H5 := by kernel_rfl
noncomputable def f18_sh (call : Handle) (k : Nat) (p0 : Value) (H : GH) : M (Value × GH) :=
  onV ((oBin Tryd.prog .eql 24 p0 (.slice none 0 0)).filter closed) fun v1 =>
  onBool (asB v1)
  (some [((.slice none 0 0), H)])
  (onVH (gBuildSlice Tryd.prog 24 0 [] H) fun v2 H3 =>
  onVH (gAppend Tryd.prog 24 24 v2 p0 H3) fun v4 H5 =>
  some [(v4, H5)])
theorem f18_run (call : Handle) (k : Nat) (p0 : Value) (H : GH) : g18 call k [] (FG 8 (fun _ => undef) [(0, p0)]) H (hFin Tryd.prog Tryd.f18) = f18_sh call k p0 H := by
  unfold f18_sh
  rw [n18_0]
  rw [n18_1]
  rw [s18_0]
  rw [hSeq_n]
  rw [n18_2]
  rw [n18_3]
  rw [n18_4]
  rw [s18_1]
  refine onV_c fun v1 => ?_
  rw [hSeq_n]
  rw [n18_5]
  refine onBool_cc (by kernel_rfl) ?_ ?_
  · rw [n18_6]
    rw [n18_7]
    rw [s18_2]
    rw [hSeq_n]
    rw [n18_8]
    rw [hSeq_r]
    kernel_rfl
  · rw [n18_9]
    rw [hSeq_n]
    rw [n18_10]
    rw [n18_11]
    rw [s18_3]
    refine onVH_c fun v2 H3 => ?_
    refine onVH_c fun v4 H5 => ?_
    rw [hSeq_n]
    rw [n18_12]
    kernel_rfl
theorem f18_eq (call : Handle) (k : Nat) (p0 : Value) (H : GH) : gFunc Tryd.prog call k Tryd.f18 [p0] H = f18_sh call k p0 H :=
  Eq.trans (by kernel_rfl) (f18_run call k p0 H)
end
noncomputable def g19 {β : Type} (call : Handle) (k : Nat) (p : List Nat) : GA → GH → Kont β → M β := gCode Tryd.prog call k (fAt Tryd.f19 p)
noncomputable def o19 {β : Type} (d : Nat) (call : Handle) (p : List Nat) (i : Nat) : GA → GH → (GA → GH → M β) → M β := gOps Tryd.prog d call (opsAt (fAt Tryd.f19 p)) i ((opsAt (fAt Tryd.f19 p)).drop i)
noncomputable def t19 {β : Type} (d : Nat) (call : Handle) (p : List Nat) (i n : Nat) : GA → GH → (GA → GH → M β) → M β := gOps Tryd.prog d call (opsAt (fAt Tryd.f19 p)) i (((opsAt (fAt Tryd.f19 p)).drop i).take n)
theorem o19_s {β : Type} {d : Nat} {call : Handle} {p : List Nat} {a : GA} {H : GH} {K : GA → GH → M β} (i n : Nat) : o19 d call p i a H K = t19 d call p i n a H fun a H => o19 d call p (i + n) a H K := gOps_split i n
section
variable {β : Type} {call : Handle} {k : Nat} {a : GA} {K : Kont β} {K' : GA → GH → M β}
variable {d : Nat → Value} {xg : Value}
variable {p0 p1 : Value}
variable {v1 v2 : Value}
variable {H : GH}
theorem n19_0 : g19 call k [] a H K = g19 call k [0] a H (hSeq (g19 call k [1]) K) := at_seq (by kernel_rfl)
theorem n19_1 : g19 call k [0] a H K = o19 0 call [0] 0 a H (K .normal) := at_region (by kernel_rfl)
theorem n19_2 : g19 call k [1] a H K = g19 call k [1,0] a H (hSeq (g19 call k [1,1]) K) := at_seq (by kernel_rfl)
theorem n19_3 : g19 call k [1,0] a H K = g19 call k [1,0,0] a H (hSeq (g19 call k [1,0,1]) K) := at_seq (by kernel_rfl)
theorem n19_4 : g19 call k [1,0,0] a H K = o19 0 call [1,0,0] 0 a H (K .normal) := at_region (by kernel_rfl)
theorem n19_5 : g19 call k [1,0,1] a H K = onBool (asB (GA.eval a (.tmp 6))) (g19 call k [1,0,1,0] a H K) (g19 call k [1,0,1,1] a H K) := at_cond (by kernel_rfl)
theorem n19_6 : g19 call k [1,0,1,0] a H K = o19 0 call [1,0,1,0] 0 a H (K .normal) := at_region (by kernel_rfl)
theorem n19_7 : g19 call k [1,0,1,1] a H K = K .normal a H := at_skip (by kernel_rfl)
theorem n19_8 : g19 call k [1,1] a H K = g19 call k [1,1,0] a H (hSeq (g19 call k [1,1,1]) K) := at_seq (by kernel_rfl)
theorem n19_9 : g19 call k [1,1,0] a H K = o19 0 call [1,1,0] 0 a H (K .normal) := at_region (by kernel_rfl)
theorem n19_10 : g19 call k [1,1,1] a H K = K .ret a H := at_ret (by kernel_rfl)
theorem s19_0 : o19 0 call [0] 0 (FG 9 (fun _ => undef) [(1, p1), (0, p0)]) H K' =
  K' (FG 9 (fun _ => undef) [(4, .nilFunc), (3, (.pointer (some ⟨(GH.push H (.row (Value.cells p0).toList 26 false)).n, 0, none⟩))), (2, (.pointer (some ⟨H.n, 0, none⟩))), (1, p1), (0, p0)]) (GH.push (GH.push H (.row (Value.cells p0).toList 26 false)) (.row (Value.cells p1).toList 3 false)) := by kernel_rfl
theorem s19_1 : o19 0 call [1,0,0] 0 (FG 9 (fun _ => undef) [(4, .nilFunc), (3, (.pointer (some ⟨(GH.push H (.row (Value.cells p0).toList 26 false)).n, 0, none⟩))), (2, (.pointer (some ⟨H.n, 0, none⟩))), (1, p1), (0, p0)]) (GH.push (GH.push H (.row (Value.cells p0).toList 26 false)) (.row (Value.cells p1).toList 3 false)) K' =
  onV (gLoad Tryd.prog 3 (.pointer (some ⟨(GH.push H (.row (Value.cells p0).toList 26 false)).n, 0, none⟩)) (GH.push (GH.push H (.row (Value.cells p0).toList 26 false)) (.row (Value.cells p1).toList 3 false))) fun v1 =>
  onV ((oBin Tryd.prog .lss 3 v1 (.int .i64 1)).filter closed) fun v2 =>
  K' (FG 9 (fun _ => undef) [(6, v2), (5, v1), (4, .nilFunc), (3, (.pointer (some ⟨(GH.push H (.row (Value.cells p0).toList 26 false)).n, 0, none⟩))), (2, (.pointer (some ⟨H.n, 0, none⟩))), (1, p1), (0, p0)]) (GH.push (GH.push H (.row (Value.cells p0).toList 26 false)) (.row (Value.cells p1).toList 3 false)) := by kernel_rfl
theorem s19_2 : o19 0 call [1,0,1,0] 0 (FG 9 (fun _ => undef) [(6, v2), (5, v1), (4, .nilFunc), (3, (.pointer (some ⟨(GH.push H (.row (Value.cells p0).toList 26 false)).n, 0, none⟩))), (2, (.pointer (some ⟨H.n, 0, none⟩))), (1, p1), (0, p0)]) (GH.push (GH.push H (.row (Value.cells p0).toList 26 false)) (.row (Value.cells p1).toList 3 false)) K' =
  onV (oIface Tryd.prog 9 (.string ⟨#[99, 97, 110, 110, 111, 116, 32, 98, 101, 32, 108, 101, 115, 115, 32, 116, 104, 97, 110, 32, 49]⟩)) fun v3 =>
  none := by kernel_rfl
theorem s19_3 : o19 0 call [1,1,0] 0 (FG 9 (fun _ => undef) [(6, v2), (5, v1), (4, .nilFunc), (3, (.pointer (some ⟨(GH.push H (.row (Value.cells p0).toList 26 false)).n, 0, none⟩))), (2, (.pointer (some ⟨H.n, 0, none⟩))), (1, p1), (0, p0)]) (GH.push (GH.push H (.row (Value.cells p0).toList 26 false)) (.row (Value.cells p1).toList 3 false)) K' =
  K' (FG 9 (fun _ => undef) [(4, (.func (.func 26) #[] #[(.pointer (some ⟨H.n, 0, none⟩)), (.pointer (some ⟨(GH.push H (.row (Value.cells p0).toList 26 false)).n, 0, none⟩))])), (8, (.func (.func 26) #[] #[(.pointer (some ⟨H.n, 0, none⟩)), (.pointer (some ⟨(GH.push H (.row (Value.cells p0).toList 26 false)).n, 0, none⟩))])), (6, v2), (5, v1), (4, .nilFunc), (3, (.pointer (some ⟨(GH.push H (.row (Value.cells p0).toList 26 false)).n, 0, none⟩))), (2, (.pointer (some ⟨H.n, 0, none⟩))), (1, p1), (0, p0)]) (GH.push (GH.push H (.row (Value.cells p0).toList 26 false)) (.row (Value.cells p1).toList 3 false)) := by kernel_rfl
noncomputable def f19_sh (call : Handle) (k : Nat) (p0 p1 : Value) (H : GH) : M (Value × GH) :=
  onV (gLoad Tryd.prog 3 (.pointer (some ⟨(GH.push H (.row (Value.cells p0).toList 26 false)).n, 0, none⟩)) (GH.push (GH.push H (.row (Value.cells p0).toList 26 false)) (.row (Value.cells p1).toList 3 false))) fun v1 =>
  onV ((oBin Tryd.prog .lss 3 v1 (.int .i64 1)).filter closed) fun v2 =>
  onBool (asB v2)
  (onV (oIface Tryd.prog 9 (.string ⟨#[99, 97, 110, 110, 111, 116, 32, 98, 101, 32, 108, 101, 115, 115, 32, 116, 104, 97, 110, 32, 49]⟩)) fun v3 =>
  none)
  (some [((.func (.func 26) #[] #[(.pointer (some ⟨H.n, 0, none⟩)), (.pointer (some ⟨(GH.push H (.row (Value.cells p0).toList 26 false)).n, 0, none⟩))]), (GH.push (GH.push H (.row (Value.cells p0).toList 26 false)) (.row (Value.cells p1).toList 3 false)))])
theorem f19_run (call : Handle) (k : Nat) (p0 p1 : Value) (H : GH) : g19 call k [] (FG 9 (fun _ => undef) [(1, p1), (0, p0)]) H (hFin Tryd.prog Tryd.f19) = f19_sh call k p0 p1 H := by
  unfold f19_sh
  rw [n19_0]
  rw [n19_1]
  rw [s19_0]
  rw [hSeq_n]
  rw [n19_2]
  rw [n19_3]
  rw [n19_4]
  rw [s19_1]
  refine onV_c fun v1 => ?_
  refine onV_c fun v2 => ?_
  rw [hSeq_n]
  rw [n19_5]
  refine onBool_cc (by kernel_rfl) ?_ ?_
  · rw [n19_6]
    refine (s19_2).trans ?_
    refine onV_c fun v3 => ?_
    rfl
  · rw [n19_7]
    rw [hSeq_n]
    rw [n19_8]
    rw [n19_9]
    rw [s19_3]
    rw [hSeq_n]
    rw [n19_10]
    kernel_rfl
theorem f19_eq (call : Handle) (k : Nat) (p0 p1 : Value) (H : GH) : gFunc Tryd.prog call k Tryd.f19 [p0, p1] H = f19_sh call k p0 p1 H :=
  Eq.trans (by kernel_rfl) (f19_run call k p0 p1 H)
end
noncomputable def g20 {β : Type} (call : Handle) (k : Nat) (p : List Nat) : GA → GH → Kont β → M β := gCode Tryd.prog call k (fAt Tryd.f20 p)
noncomputable def o20 {β : Type} (d : Nat) (call : Handle) (p : List Nat) (i : Nat) : GA → GH → (GA → GH → M β) → M β := gOps Tryd.prog d call (opsAt (fAt Tryd.f20 p)) i ((opsAt (fAt Tryd.f20 p)).drop i)
noncomputable def t20 {β : Type} (d : Nat) (call : Handle) (p : List Nat) (i n : Nat) : GA → GH → (GA → GH → M β) → M β := gOps Tryd.prog d call (opsAt (fAt Tryd.f20 p)) i (((opsAt (fAt Tryd.f20 p)).drop i).take n)
theorem o20_s {β : Type} {d : Nat} {call : Handle} {p : List Nat} {a : GA} {H : GH} {K : GA → GH → M β} (i n : Nat) : o20 d call p i a H K = t20 d call p i n a H fun a H => o20 d call p (i + n) a H K := gOps_split i n
section
variable {β : Type} {call : Handle} {k : Nat} {a : GA} {K : Kont β} {K' : GA → GH → M β}
variable {d : Nat → Value} {xg : Value}
variable {p0 : Value}
variable {v1 v2 v3 v5 v6 v8 : Value}
variable {H H2 H4 H9 : GH}
theorem n20_0 : g20 call k [] a H K = g20 call k [0] a H (hSeq (g20 call k [1]) K) := at_seq (by kernel_rfl)
theorem n20_1 : g20 call k [0] a H K = o20 0 call [0] 0 a H (K .normal) := at_region (by kernel_rfl)
theorem n20_2 : g20 call k [1] a H K = g20 call k [1,0] a H (hSeq (g20 call k [1,1]) K) := at_seq (by kernel_rfl)
theorem n20_3 : g20 call k [1,0] a H K = o20 0 call [1,0] 0 a H (K .normal) := at_region (by kernel_rfl)
theorem n20_4 : g20 call k [1,1] a H K = g20 call k [1,1,0] a H (hSeq (g20 call k [1,1,1]) K) := at_seq (by kernel_rfl)
theorem n20_5 : g20 call k [1,1,0] a H K = g20 call k [1,1,0,0] a H (hSeq (g20 call k [1,1,0,1]) K) := at_seq (by kernel_rfl)
theorem n20_6 : g20 call k [1,1,0,0] a H K = o20 0 call [1,1,0,0] 0 a H (K .normal) := at_region (by kernel_rfl)
theorem n20_7 : g20 call k [1,1,0,1] a H K = g20 call k [1,1,0,1,0] a H (hBlock 0 K) := at_block (by kernel_rfl)
theorem n20_8 : g20 call k [1,1,0,1,0] a H K = gLoop (g20 call k [1,1,0,1,0,0]) K k a H := at_loop (by kernel_rfl)
theorem n20_9 : g20 call k [1,1,0,1,0,0] a H K = g20 call k [1,1,0,1,0,0,0] a H (hSeq (g20 call k [1,1,0,1,0,0,1]) K) := at_seq (by kernel_rfl)
theorem n20_10 : g20 call k [1,1,0,1,0,0,0] a H K = o20 0 call [1,1,0,1,0,0,0] 0 a H (K .normal) := at_region (by kernel_rfl)
theorem n20_11 : g20 call k [1,1,0,1,0,0,1] a H K = g20 call k [1,1,0,1,0,0,1,0] a H (hSeq (g20 call k [1,1,0,1,0,0,1,1]) K) := at_seq (by kernel_rfl)
theorem n20_12 : g20 call k [1,1,0,1,0,0,1,0] a H K = onBool (asB (GA.eval a (.tmp 14))) (g20 call k [1,1,0,1,0,0,1,0,0] a H K) (g20 call k [1,1,0,1,0,0,1,0,1] a H K) := at_cond (by kernel_rfl)
theorem n20_13 : g20 call k [1,1,0,1,0,0,1,0,0] a H K = K .normal a H := at_skip (by kernel_rfl)
theorem n20_14 : g20 call k [1,1,0,1,0,0,1,1] a H K = g20 call k [1,1,0,1,0,0,1,1,0] a H (hSeq (g20 call k [1,1,0,1,0,0,1,1,1]) K) := at_seq (by kernel_rfl)
theorem n20_15 : g20 call k [1,1,0,1,0,0,1,1,0] a H K = g20 call k [1,1,0,1,0,0,1,1,0,0] a H (hBlock 1 K) := at_block (by kernel_rfl)
theorem n20_16 : g20 call k [1,1,0,1,0,0,1,1,0,0] a H K = g20 call k [1,1,0,1,0,0,1,1,0,0,0] a H (hSeq (g20 call k [1,1,0,1,0,0,1,1,0,0,1]) K) := at_seq (by kernel_rfl)
theorem n20_17 : g20 call k [1,1,0,1,0,0,1,1,0,0,0] a H K = o20 0 call [1,1,0,1,0,0,1,1,0,0,0] 0 a H (K .normal) := at_region (by kernel_rfl)
theorem n20_18 : g20 call k [1,1,0,1,0,0,1,1,0,0,1] a H K = o20 0 call [1,1,0,1,0,0,1,1,0,0,1] 0 a H (K .normal) := at_region (by kernel_rfl)
theorem n20_19 : g20 call k [1,1,0,1,0,0,1,1,1] a H K = o20 0 call [1,1,0,1,0,0,1,1,1] 0 a H (K .normal) := at_region (by kernel_rfl)
theorem n20_20 : g20 call k [1,1,0,1,0,0,1,0,1] a H K = K (.exit 0) a H := at_exit (by kernel_rfl)
theorem n20_21 : g20 call k [1,1,1] a H K = g20 call k [1,1,1,0] a H (hSeq (g20 call k [1,1,1,1]) K) := at_seq (by kernel_rfl)
theorem n20_22 : g20 call k [1,1,1,0] a H K = o20 0 call [1,1,1,0] 0 a H (K .normal) := at_region (by kernel_rfl)
theorem n20_23 : g20 call k [1,1,1,1] a H K = g20 call k [1,1,1,1,0] a H (hSeq (g20 call k [1,1,1,1,1]) K) := at_seq (by kernel_rfl)
theorem n20_24 : g20 call k [1,1,1,1,0] a H K = o20 0 call [1,1,1,1,0] 0 a H (K .normal) := at_region (by kernel_rfl)
theorem n20_25 : g20 call k [1,1,1,1,1] a H K = K .ret a H := at_ret (by kernel_rfl)
theorem s20_0 : o20 0 call [0] 0 (FG 32 (fun _ => undef) [(0, p0)]) H K' =
  K' (FG 32 (fun _ => undef) [(2, (.slice none 0 0)), (0, p0)]) H := by kernel_rfl
theorem s20_1 : o20 0 call [1,0] 0 (FG 32 (fun _ => undef) [(2, (.slice none 0 0)), (0, p0)]) H K' =
  onV (oLen Tryd.prog 26 p0) fun v1 =>
  onV ((oConvert Tryd.prog 3 5 v1).filter closed) fun v2 =>
  onVH (gBuildSlice Tryd.prog 24 1 [(0, v2)] H) fun v3 H4 =>
  K' (FG 32 (fun _ => undef) [(3, v3), (10, v3), (9, v2), (8, v1), (7, p0), (2, (.slice none 0 0)), (0, p0)]) H4 := by kernel_rfl
theorem s20_2 : o20 0 call [1,1,0,0] 0 (FG 32 (fun _ => undef) [(3, v3), (10, v3), (9, v2), (8, v1), (7, p0), (2, (.slice none 0 0)), (0, p0)]) H4 K' =
  onV (oLen Tryd.prog 26 p0) fun v5 =>
  K' (FG 32 (fun _ => undef) [(13, (.int .i64 0)), (12, v5), (11, p0), (3, v3), (10, v3), (9, v2), (8, v1), (7, p0), (2, (.slice none 0 0)), (0, p0)]) H4 := by kernel_rfl
theorem s20_3 : o20 0 call [1,1,0,1,0,0,0] 0 (FF 32 d) H K' =
  onV ((oBin Tryd.prog .lss 3 (d 13) (d 12)).filter closed) fun v1 =>
  K' (FG 32 d [(14, v1)]) H := by kernel_rfl
theorem s20_4 : o20 0 call [1,1,0,1,0,0,1,1,0,0,0] 0 (FG 32 d [(14, v1)]) H K' =
  onV (oIndexAddr Tryd.prog 26 (d 11) (d 13)) fun v2 =>
  onV (gLoad Tryd.prog 48 v2 H) fun v3 =>
  onH (gStore Tryd.prog 48 (.pointer (some ⟨H.n, 0, none⟩)) v3 (GH.push H (.row [(.int .u8 0), (.int .u8 0), (.int .u8 0), (.int .i64 0), (.int .u8 0), (.int .i64 0)] 48 false))) fun H4 =>
  K' (FG 32 d [(5, (.pointer (some ⟨H.n, 0, none⟩))), (16, v3), (15, v2), (14, v1)]) H4 := by kernel_rfl
theorem s20_5 : o20 0 call [1,1,0,1,0,0,1,1,0,0,1] 0 (FG 32 d [(5, (.pointer (some ⟨H.n, 0, none⟩))), (16, v3), (15, v2), (14, v1)]) H4 K' =
  onV (gLoad Tryd.prog 48 (.pointer (some ⟨H.n, 0, none⟩)) H4) fun v5 =>
  onCall 0 call (.func (.func 27) #[] #[]) [v5] H4 fun v6 H7 =>
  onVH (gAppend Tryd.prog 24 24 (d 3) v6 H7) fun v8 H9 =>
  K' (FG 32 d [(3, v8), (20, v8), (19, v6), (18, v5), (17, (d 3)), (5, (.pointer (some ⟨H.n, 0, none⟩))), (16, v3), (15, v2), (14, v1)]) H9 := by kernel_rfl
theorem s20_6 : o20 0 call [1,1,0,1,0,0,1,1,1] 0 (FG 32 d [(3, v8), (20, v8), (19, v6), (18, v5), (17, (d 3)), (5, (.pointer (some ⟨H.n, 0, none⟩))), (16, v3), (15, v2), (14, v1)]) H9 K' =
  onV ((oBin Tryd.prog .add 3 (d 13) (.int .i64 1)).filter closed) fun v10 =>
  K' (FG 32 d [(13, v10), (21, v10), (3, v8), (20, v8), (19, v6), (18, v5), (17, (d 3)), (5, (.pointer (some ⟨H.n, 0, none⟩))), (16, v3), (15, v2), (14, v1)]) H9 := by kernel_rfl
theorem s20_7 : o20 0 call [1,1,1,0] 0 (FF 32 d) H K' =
  onCall 0 call (.func (.func 12) #[] #[]) [(d 3)] H fun v1 H2 =>
  K' (FG 32 d [(6, v1), (23, v1), (22, (d 3))]) H2 := by kernel_rfl
theorem s20_8 : o20 0 call [1,1,1,1,0] 0 (FG 32 d [(6, v1), (23, v1), (22, (d 3))]) H2 K' =
  onV ((oBin Tryd.prog .shr 40 v1 (.int .u64 8)).filter closed) fun v3 =>
  onV ((oConvert Tryd.prog 40 5 v3).filter closed) fun v4 =>
  onV ((oConvert Tryd.prog 40 5 v1).filter closed) fun v5 =>
  onVH (gBuildSlice Tryd.prog 24 2 [(0, v4), (1, v5)] H2) fun v6 H7 =>
  onVH (gAppend Tryd.prog 24 24 (d 3) v6 H7) fun v8 H9 =>
  K' (FG 32 d [(2, v8), (31, v8), (30, v6), (29, v5), (28, v1), (27, v4), (26, v3), (25, v1), (24, (d 3)), (6, v1), (23, v1), (22, (d 3))]) H9 := by kernel_rfl
def f20_l3_P (ag : AG) (sg : Sg4) : Prop := ∀ (d : Nat → Value) (H : GH), ag (FF 32 d) H = sg (d 3) (d 11) (d 12) (d 13) H
theorem f20_l3_at {ag : AG} {sg : Sg4} (h : f20_l3_P ag sg) : ag (FF 32 d) H = sg (d 3) (d 11) (d 12) (d 13) H := h d H
noncomputable def f20_r7 (call : Handle) (k : Nat) (x3 : Value) (H : GH) : M (Value × GH) :=
  onCall 0 call (.func (.func 12) #[] #[]) [x3] H fun v1 H2 =>
  onV ((oBin Tryd.prog .shr 40 v1 (.int .u64 8)).filter closed) fun v3 =>
  onV ((oConvert Tryd.prog 40 5 v3).filter closed) fun v4 =>
  onV ((oConvert Tryd.prog 40 5 v1).filter closed) fun v5 =>
  onVH (gBuildSlice Tryd.prog 24 2 [(0, v4), (1, v5)] H2) fun v6 H7 =>
  onVH (gAppend Tryd.prog 24 24 x3 v6 H7) fun v8 H9 =>
  some [(v8, H9)]
theorem f20_r7_eq (call : Handle) (k : Nat) : g20 call k [1,1,1] (FF 32 d) H (hFin Tryd.prog Tryd.f20) = f20_r7 call k (d 3) H := by
  unfold f20_r7
  rw [n20_21]
  rw [n20_22]
  rw [s20_7]
  refine onCall_c fun v1 H2 => ?_
  rw [hSeq_n]
  rw [n20_23]
  rw [n20_24]
  rw [s20_8]
  refine onV_c fun v3 => ?_
  refine onV_c fun v4 => ?_
  refine onV_c fun v5 => ?_
  refine onVH_c fun v6 H7 => ?_
  refine onVH_c fun v8 H9 => ?_
  rw [hSeq_n]
  rw [n20_25]
  kernel_rfl
noncomputable def f20_l3b (call : Handle) (k : Nat) (sg_l3 : Sg4) (x3 x11 x12 x13 : Value) (H : GH) : M (Value × GH) :=
  onV ((oBin Tryd.prog .lss 3 x13 x12).filter closed) fun v1 =>
  onBool (asB v1)
  (onV (oIndexAddr Tryd.prog 26 x11 x13) fun v2 =>
  onV (gLoad Tryd.prog 48 v2 H) fun v3 =>
  onH (gStore Tryd.prog 48 (.pointer (some ⟨H.n, 0, none⟩)) v3 (GH.push H (.row [(.int .u8 0), (.int .u8 0), (.int .u8 0), (.int .i64 0), (.int .u8 0), (.int .i64 0)] 48 false))) fun H4 =>
  onV (gLoad Tryd.prog 48 (.pointer (some ⟨H.n, 0, none⟩)) H4) fun v5 =>
  onCall 0 call (.func (.func 27) #[] #[]) [v5] H4 fun v6 H7 =>
  onVH (gAppend Tryd.prog 24 24 x3 v6 H7) fun v8 H9 =>
  onV ((oBin Tryd.prog .add 3 x13 (.int .i64 1)).filter closed) fun v10 =>
  (sg_l3 v8 x11 x12 v10 H9))
  ((f20_r7 call k x3 H))
theorem f20_l3b_eq (call : Handle) (k : Nat) (ag_l3 : AG) (sg_l3 : Sg4) (h_l3 : f20_l3_P ag_l3 sg_l3) : g20 call k [1,1,0,1,0,0] (FF 32 d) H (hLoop ag_l3 (hBlock 0 (hSeq (g20 call k [1,1,1]) (hFin Tryd.prog Tryd.f20)))) = f20_l3b call k sg_l3 (d 3) (d 11) (d 12) (d 13) H := by
  unfold f20_l3b
  rw [n20_9]
  rw [n20_10]
  rw [s20_3]
  refine onV_c fun v1 => ?_
  rw [hSeq_n]
  rw [n20_11]
  rw [n20_12]
  refine onBool_cc (by kernel_rfl) ?_ ?_
  · rw [n20_13]
    rw [hSeq_n]
    rw [n20_14]
    rw [n20_15]
    rw [n20_16]
    rw [n20_17]
    rw [s20_4]
    refine onV_c fun v2 => ?_
    refine onV_c fun v3 => ?_
    refine onH_c fun H4 => ?_
    rw [hSeq_n]
    rw [n20_18]
    rw [s20_5]
    refine onV_c fun v5 => ?_
    refine onCall_c fun v6 H7 => ?_
    refine onVH_c fun v8 H9 => ?_
    rw [hBlock_n]
    rw [hSeq_n]
    rw [n20_19]
    rw [s20_6]
    refine onV_c fun v10 => ?_
    rw [hLoop_n]
    generalize e : (FG 32 d [(13, v10), (21, v10), (3, v8), (20, v8), (19, v6), (18, v5), (17, (d 3)), (5, (.pointer (some ⟨H.n, 0, none⟩))), (16, v3), (15, v2), (14, v1)]) = a
    rw [show a = (FF 32 (gf a)) from (FF_gf (by subst e; exact FG_len)).symm]
    exact (f20_l3_at (d := gf a) h_l3).trans (by subst e; kernel_rfl)
  · rw [n20_20]
    rw [hSeq_e, hLoop_e, hBlock_hit]
    rw [hSeq_n]
    generalize e : (FG 32 d [(14, v1)]) = a
    rw [show a = (FF 32 (gf a)) from (FF_gf (by subst e; exact FG_len)).symm]
    exact (f20_r7_eq (d := gf a) call k).trans (by subst e; kernel_rfl)
noncomputable def f20_l3 (call : Handle) (k : Nat) : Nat → Value → Value → Value → Value → GH → M (Value × GH)
  | 0, _, _, _, _, _ => none
  | r + 1, x3, x11, x12, x13, H => f20_l3b call k (f20_l3 call k r) x3 x11 x12 x13 H
theorem f20_l3_eq (call : Handle) (k : Nat) : ∀ (r : Nat), f20_l3_P (gLoop (g20 call k [1,1,0,1,0,0]) (hBlock 0 (hSeq (g20 call k [1,1,1]) (hFin Tryd.prog Tryd.f20))) r) (f20_l3 call k r) := by
  intro r
  induction r with
  | zero => unfold f20_l3_P; intros; rfl
  | succ r ih => unfold f20_l3_P; intros; exact f20_l3b_eq call k _ _ ih
noncomputable def f20_sh (call : Handle) (k : Nat) (p0 : Value) (H : GH) : M (Value × GH) :=
  onV (oLen Tryd.prog 26 p0) fun v1 =>
  onV ((oConvert Tryd.prog 3 5 v1).filter closed) fun v2 =>
  onVH (gBuildSlice Tryd.prog 24 1 [(0, v2)] H) fun v3 H4 =>
  onV (oLen Tryd.prog 26 p0) fun v5 =>
  (f20_l3 call k k v3 p0 v5 (.int .i64 0) H4)
theorem f20_run (call : Handle) (k : Nat) (p0 : Value) (H : GH) : g20 call k [] (FG 32 (fun _ => undef) [(0, p0)]) H (hFin Tryd.prog Tryd.f20) = f20_sh call k p0 H := by
  unfold f20_sh
  rw [n20_0]
  rw [n20_1]
  rw [s20_0]
  rw [hSeq_n]
  rw [n20_2]
  rw [n20_3]
  rw [s20_1]
  refine onV_c fun v1 => ?_
  refine onV_c fun v2 => ?_
  refine onVH_c fun v3 H4 => ?_
  rw [hSeq_n]
  rw [n20_4]
  rw [n20_5]
  rw [n20_6]
  rw [s20_2]
  refine onV_c fun v5 => ?_
  rw [hSeq_n]
  rw [n20_7]
  rw [n20_8]
  generalize e : (FG 32 (fun _ => undef) [(13, (.int .i64 0)), (12, v5), (11, p0), (3, v3), (10, v3), (9, v2), (8, v1), (7, p0), (2, (.slice none 0 0)), (0, p0)]) = a
  rw [show a = (FF 32 (gf a)) from (FF_gf (by subst e; exact FG_len)).symm]
  exact (f20_l3_at (d := gf a) (f20_l3_eq call k k)).trans (by subst e; kernel_rfl)
theorem f20_eq (call : Handle) (k : Nat) (p0 : Value) (H : GH) : gFunc Tryd.prog call k Tryd.f20 [p0] H = f20_sh call k p0 H :=
  Eq.trans (by kernel_rfl) (f20_run call k p0 H)
end
noncomputable def g21 {β : Type} (call : Handle) (k : Nat) (p : List Nat) : GA → GH → Kont β → M β := gCode Tryd.prog call k (fAt Tryd.f21 p)
noncomputable def o21 {β : Type} (d : Nat) (call : Handle) (p : List Nat) (i : Nat) : GA → GH → (GA → GH → M β) → M β := gOps Tryd.prog d call (opsAt (fAt Tryd.f21 p)) i ((opsAt (fAt Tryd.f21 p)).drop i)
noncomputable def t21 {β : Type} (d : Nat) (call : Handle) (p : List Nat) (i n : Nat) : GA → GH → (GA → GH → M β) → M β := gOps Tryd.prog d call (opsAt (fAt Tryd.f21 p)) i (((opsAt (fAt Tryd.f21 p)).drop i).take n)
theorem o21_s {β : Type} {d : Nat} {call : Handle} {p : List Nat} {a : GA} {H : GH} {K : GA → GH → M β} (i n : Nat) : o21 d call p i a H K = t21 d call p i n a H fun a H => o21 d call p (i + n) a H K := gOps_split i n
section
variable {β : Type} {call : Handle} {k : Nat} {a : GA} {K : Kont β} {K' : GA → GH → M β}
variable {d : Nat → Value} {xg : Value}
variable {p0 : Value}
variable {H : GH}
theorem n21_0 : g21 call k [] a H K = g21 call k [0] a H (hSeq (g21 call k [1]) K) := at_seq (by kernel_rfl)
theorem n21_1 : g21 call k [0] a H K = o21 0 call [0] 0 a H (K .normal) := at_region (by kernel_rfl)
theorem n21_2 : g21 call k [1] a H K = g21 call k [1,0] a H (hSeq (g21 call k [1,1]) K) := at_seq (by kernel_rfl)
theorem n21_3 : g21 call k [1,0] a H K = o21 0 call [1,0] 0 a H (K .normal) := at_region (by kernel_rfl)
theorem n21_4 : g21 call k [1,1] a H K = K .ret a H := at_ret (by kernel_rfl)
theorem s21_0 : o21 0 call [0] 0 (FG 9 (fun _ => undef) [(0, p0)]) H K' =
  K' (FG 9 (fun _ => undef) [(2, (.slice none 0 0)), (0, p0)]) H := by kernel_rfl
theorem s21_1 : o21 0 call [1,0] 0 (FG 9 (fun _ => undef) [(2, (.slice none 0 0)), (0, p0)]) H K' =
  onV (oLen Tryd.prog 24 p0) fun v1 =>
  onV (oLen Tryd.prog 24 p0) fun v2 =>
  onV (oSlice Tryd.prog 24 p0 none (some v1) (some v2)) fun v3 =>
  K' (FG 9 (fun _ => undef) [(2, v3), (8, v3), (7, v2), (6, p0), (5, v1), (4, p0), (3, p0), (2, (.slice none 0 0)), (0, p0)]) H := by kernel_rfl
noncomputable def f21_sh (call : Handle) (k : Nat) (p0 : Value) (H : GH) : M (Value × GH) :=
  onV (oLen Tryd.prog 24 p0) fun v1 =>
  onV (oLen Tryd.prog 24 p0) fun v2 =>
  onV (oSlice Tryd.prog 24 p0 none (some v1) (some v2)) fun v3 =>
  some [(v3, H)]
theorem f21_run (call : Handle) (k : Nat) (p0 : Value) (H : GH) : g21 call k [] (FG 9 (fun _ => undef) [(0, p0)]) H (hFin Tryd.prog Tryd.f21) = f21_sh call k p0 H := by
  unfold f21_sh
  rw [n21_0]
  rw [n21_1]
  rw [s21_0]
  rw [hSeq_n]
  rw [n21_2]
  rw [n21_3]
  rw [s21_1]
  refine onV_c fun v1 => ?_
  refine onV_c fun v2 => ?_
  refine onV_c fun v3 => ?_
  rw [hSeq_n]
  rw [n21_4]
  kernel_rfl
theorem f21_eq (call : Handle) (k : Nat) (p0 : Value) (H : GH) : gFunc Tryd.prog call k Tryd.f21 [p0] H = f21_sh call k p0 H :=
  Eq.trans (by kernel_rfl) (f21_run call k p0 H)
end
noncomputable def g22 {β : Type} (call : Handle) (k : Nat) (p : List Nat) : GA → GH → Kont β → M β := gCode Tryd.prog call k (fAt Tryd.f22 p)
noncomputable def o22 {β : Type} (d : Nat) (call : Handle) (p : List Nat) (i : Nat) : GA → GH → (GA → GH → M β) → M β := gOps Tryd.prog d call (opsAt (fAt Tryd.f22 p)) i ((opsAt (fAt Tryd.f22 p)).drop i)
noncomputable def t22 {β : Type} (d : Nat) (call : Handle) (p : List Nat) (i n : Nat) : GA → GH → (GA → GH → M β) → M β := gOps Tryd.prog d call (opsAt (fAt Tryd.f22 p)) i (((opsAt (fAt Tryd.f22 p)).drop i).take n)
theorem o22_s {β : Type} {d : Nat} {call : Handle} {p : List Nat} {a : GA} {H : GH} {K : GA → GH → M β} (i n : Nat) : o22 d call p i a H K = t22 d call p i n a H fun a H => o22 d call p (i + n) a H K := gOps_split i n
section
variable {β : Type} {call : Handle} {k : Nat} {a : GA} {K : Kont β} {K' : GA → GH → M β}
variable {d : Nat → Value} {xg : Value}
variable {p0 : Value}
variable {v1 v2 v3 v4 v5 v7 : Value}
variable {H H2 H4 H8 : GH}
theorem n22_0 : g22 call k [] a H K = g22 call k [0] a H (hSeq (g22 call k [1]) K) := at_seq (by kernel_rfl)
theorem n22_1 : g22 call k [0] a H K = o22 0 call [0] 0 a H (K .normal) := at_region (by kernel_rfl)
theorem n22_2 : g22 call k [1] a H K = g22 call k [1,0] a H (hSeq (g22 call k [1,1]) K) := at_seq (by kernel_rfl)
theorem n22_3 : g22 call k [1,0] a H K = o22 0 call [1,0] 0 a H (K .normal) := at_region (by kernel_rfl)
theorem n22_4 : g22 call k [1,1] a H K = g22 call k [1,1,0] a H (hSeq (g22 call k [1,1,1]) K) := at_seq (by kernel_rfl)
theorem n22_5 : g22 call k [1,1,0] a H K = g22 call k [1,1,0,0] a H (hSeq (g22 call k [1,1,0,1]) K) := at_seq (by kernel_rfl)
theorem n22_6 : g22 call k [1,1,0,0] a H K = o22 0 call [1,1,0,0] 0 a H (K .normal) := at_region (by kernel_rfl)
theorem n22_7 : g22 call k [1,1,0,1] a H K = g22 call k [1,1,0,1,0] a H (hBlock 0 K) := at_block (by kernel_rfl)
theorem n22_8 : g22 call k [1,1,0,1,0] a H K = gLoop (g22 call k [1,1,0,1,0,0]) K k a H := at_loop (by kernel_rfl)
theorem n22_9 : g22 call k [1,1,0,1,0,0] a H K = g22 call k [1,1,0,1,0,0,0] a H (hSeq (g22 call k [1,1,0,1,0,0,1]) K) := at_seq (by kernel_rfl)
theorem n22_10 : g22 call k [1,1,0,1,0,0,0] a H K = g22 call k [1,1,0,1,0,0,0,0] a H (hSeq (g22 call k [1,1,0,1,0,0,0,1]) K) := at_seq (by kernel_rfl)
theorem n22_11 : g22 call k [1,1,0,1,0,0,0,0] a H K = o22 0 call [1,1,0,1,0,0,0,0] 0 a H (K .normal) := at_region (by kernel_rfl)
theorem n22_12 : g22 call k [1,1,0,1,0,0,0,1] a H K = onBool (asB (GA.eval a (.tmp 13))) (g22 call k [1,1,0,1,0,0,0,1,0] a H K) (g22 call k [1,1,0,1,0,0,0,1,1] a H K) := at_cond (by kernel_rfl)
theorem n22_13 : g22 call k [1,1,0,1,0,0,0,1,0] a H K = K .normal a H := at_skip (by kernel_rfl)
theorem n22_14 : g22 call k [1,1,0,1,0,0,1] a H K = g22 call k [1,1,0,1,0,0,1,0] a H (hSeq (g22 call k [1,1,0,1,0,0,1,1]) K) := at_seq (by kernel_rfl)
theorem n22_15 : g22 call k [1,1,0,1,0,0,1,0] a H K = g22 call k [1,1,0,1,0,0,1,0,0] a H (hBlock 1 K) := at_block (by kernel_rfl)
theorem n22_16 : g22 call k [1,1,0,1,0,0,1,0,0] a H K = o22 0 call [1,1,0,1,0,0,1,0,0] 0 a H (K .normal) := at_region (by kernel_rfl)
theorem n22_17 : g22 call k [1,1,0,1,0,0,1,1] a H K = o22 0 call [1,1,0,1,0,0,1,1] 0 a H (K .normal) := at_region (by kernel_rfl)
theorem n22_18 : g22 call k [1,1,0,1,0,0,0,1,1] a H K = K (.exit 0) a H := at_exit (by kernel_rfl)
theorem n22_19 : g22 call k [1,1,1] a H K = g22 call k [1,1,1,0] a H (hSeq (g22 call k [1,1,1,1]) K) := at_seq (by kernel_rfl)
theorem n22_20 : g22 call k [1,1,1,0] a H K = o22 0 call [1,1,1,0] 0 a H (K .normal) := at_region (by kernel_rfl)
theorem n22_21 : g22 call k [1,1,1,1] a H K = g22 call k [1,1,1,1,0] a H (hSeq (g22 call k [1,1,1,1,1]) K) := at_seq (by kernel_rfl)
theorem n22_22 : g22 call k [1,1,1,1,0] a H K = o22 0 call [1,1,1,1,0] 0 a H (K .normal) := at_region (by kernel_rfl)
theorem n22_23 : g22 call k [1,1,1,1,1] a H K = K .ret a H := at_ret (by kernel_rfl)
theorem s22_0 : o22 0 call [0] 0 (FG 34 (fun _ => undef) [(0, p0)]) H K' =
  K' (FG 34 (fun _ => undef) [(2, (.slice none 0 0)), (0, p0)]) H := by kernel_rfl
theorem s22_1 : o22 0 call [1,0] 0 (FG 34 (fun _ => undef) [(2, (.slice none 0 0)), (0, p0)]) H K' =
  onV (oLen Tryd.prog 26 p0) fun v1 =>
  onV ((oConvert Tryd.prog 3 5 v1).filter closed) fun v2 =>
  onVH (gBuildSlice Tryd.prog 24 1 [(0, v2)] H) fun v3 H4 =>
  K' (FG 34 (fun _ => undef) [(3, v3), (9, v3), (8, v2), (7, v1), (6, p0), (2, (.slice none 0 0)), (0, p0)]) H4 := by kernel_rfl
theorem s22_2 : o22 0 call [1,1,0,0] 0 (FG 34 (fun _ => undef) [(3, v3), (9, v3), (8, v2), (7, v1), (6, p0), (2, (.slice none 0 0)), (0, p0)]) H4 K' =
  K' (FG 34 (fun _ => undef) [(4, (.int .i64 0)), (3, v3), (9, v3), (8, v2), (7, v1), (6, p0), (2, (.slice none 0 0)), (0, p0)]) H4 := by kernel_rfl
theorem s22_3 : o22 0 call [1,1,0,1,0,0,0,0] 0 (FF 34 d) H K' =
  onV (oLen Tryd.prog 26 (d 0)) fun v1 =>
  onV ((oBin Tryd.prog .lss 3 (d 4) v1).filter closed) fun v2 =>
  K' (FG 34 d [(13, v2), (12, v1), (11, (d 0)), (10, (d 4))]) H := by kernel_rfl
theorem s22_4 : o22 0 call [1,1,0,1,0,0,1,0,0] 0 (FG 34 d [(13, v2), (12, v1), (11, (d 0)), (10, (d 4))]) H K' =
  onV (oIndexAddr Tryd.prog 26 (d 0) (d 4)) fun v3 =>
  onV (gLoad Tryd.prog 48 v3 H) fun v4 =>
  onCall 0 call (.func (.func 28) #[] #[]) [v4] H fun v5 H6 =>
  onVH (gAppend Tryd.prog 24 24 (d 3) v5 H6) fun v7 H8 =>
  K' (FG 34 d [(3, v7), (22, v7), (21, v5), (20, v4), (19, v3), (18, (d 4)), (17, (d 0)), (16, (d 3)), (13, v2), (12, v1), (11, (d 0)), (10, (d 4))]) H8 := by kernel_rfl
theorem s22_5 : o22 0 call [1,1,0,1,0,0,1,1] 0 (FG 34 d [(3, v7), (22, v7), (21, v5), (20, v4), (19, v3), (18, (d 4)), (17, (d 0)), (16, (d 3)), (13, v2), (12, v1), (11, (d 0)), (10, (d 4))]) H8 K' =
  onV ((oBin Tryd.prog .add 3 (d 4) (.int .i64 1)).filter closed) fun v9 =>
  K' (FG 34 d [(4, v9), (15, v9), (14, (d 4)), (3, v7), (22, v7), (21, v5), (20, v4), (19, v3), (18, (d 4)), (17, (d 0)), (16, (d 3)), (13, v2), (12, v1), (11, (d 0)), (10, (d 4))]) H8 := by kernel_rfl
theorem s22_6 : o22 0 call [1,1,1,0] 0 (FF 34 d) H K' =
  onCall 0 call (.func (.func 14) #[] #[]) [(d 3)] H fun v1 H2 =>
  K' (FG 34 d [(5, v1), (24, v1), (23, (d 3))]) H2 := by kernel_rfl
theorem s22_7 : o22 0 call [1,1,1,1,0] 0 (FG 34 d [(5, v1), (24, v1), (23, (d 3))]) H2 K' =
  onV ((oBin Tryd.prog .quo 3 v1 (.int .i64 256)).filter closed) fun v3 =>
  onV ((oConvert Tryd.prog 3 5 v3).filter closed) fun v4 =>
  onV ((oBin Tryd.prog .rem 3 v1 (.int .i64 256)).filter closed) fun v5 =>
  onV ((oConvert Tryd.prog 3 5 v5).filter closed) fun v6 =>
  onVH (gBuildSlice Tryd.prog 24 2 [(0, v4), (1, v6)] H2) fun v7 H8 =>
  onVH (gAppend Tryd.prog 24 24 (d 3) v7 H8) fun v9 H10 =>
  K' (FG 34 d [(2, v9), (33, v9), (32, v7), (31, v6), (30, v5), (29, v1), (28, v4), (27, v3), (26, v1), (25, (d 3)), (5, v1), (24, v1), (23, (d 3))]) H10 := by kernel_rfl
def f22_l3_P (ag : AG) (sg : Sg3) : Prop := ∀ (d : Nat → Value) (H : GH), ag (FF 34 d) H = sg (d 0) (d 3) (d 4) H
theorem f22_l3_at {ag : AG} {sg : Sg3} (h : f22_l3_P ag sg) : ag (FF 34 d) H = sg (d 0) (d 3) (d 4) H := h d H
noncomputable def f22_r6 (call : Handle) (k : Nat) (x3 : Value) (H : GH) : M (Value × GH) :=
  onCall 0 call (.func (.func 14) #[] #[]) [x3] H fun v1 H2 =>
  onV ((oBin Tryd.prog .quo 3 v1 (.int .i64 256)).filter closed) fun v3 =>
  onV ((oConvert Tryd.prog 3 5 v3).filter closed) fun v4 =>
  onV ((oBin Tryd.prog .rem 3 v1 (.int .i64 256)).filter closed) fun v5 =>
  onV ((oConvert Tryd.prog 3 5 v5).filter closed) fun v6 =>
  onVH (gBuildSlice Tryd.prog 24 2 [(0, v4), (1, v6)] H2) fun v7 H8 =>
  onVH (gAppend Tryd.prog 24 24 x3 v7 H8) fun v9 H10 =>
  some [(v9, H10)]
theorem f22_r6_eq (call : Handle) (k : Nat) : g22 call k [1,1,1] (FF 34 d) H (hFin Tryd.prog Tryd.f22) = f22_r6 call k (d 3) H := by
  unfold f22_r6
  rw [n22_19]
  rw [n22_20]
  rw [s22_6]
  refine onCall_c fun v1 H2 => ?_
  rw [hSeq_n]
  rw [n22_21]
  rw [n22_22]
  rw [s22_7]
  refine onV_c fun v3 => ?_
  refine onV_c fun v4 => ?_
  refine onV_c fun v5 => ?_
  refine onV_c fun v6 => ?_
  refine onVH_c fun v7 H8 => ?_
  refine onVH_c fun v9 H10 => ?_
  rw [hSeq_n]
  rw [n22_23]
  kernel_rfl
noncomputable def f22_l3b (call : Handle) (k : Nat) (sg_l3 : Sg3) (x0 x3 x4 : Value) (H : GH) : M (Value × GH) :=
  onV (oLen Tryd.prog 26 x0) fun v1 =>
  onV ((oBin Tryd.prog .lss 3 x4 v1).filter closed) fun v2 =>
  onBool (asB v2)
  (onV (oIndexAddr Tryd.prog 26 x0 x4) fun v3 =>
  onV (gLoad Tryd.prog 48 v3 H) fun v4 =>
  onCall 0 call (.func (.func 28) #[] #[]) [v4] H fun v5 H6 =>
  onVH (gAppend Tryd.prog 24 24 x3 v5 H6) fun v7 H8 =>
  onV ((oBin Tryd.prog .add 3 x4 (.int .i64 1)).filter closed) fun v9 =>
  (sg_l3 x0 v7 v9 H8))
  ((f22_r6 call k x3 H))
theorem f22_l3b_eq (call : Handle) (k : Nat) (ag_l3 : AG) (sg_l3 : Sg3) (h_l3 : f22_l3_P ag_l3 sg_l3) : g22 call k [1,1,0,1,0,0] (FF 34 d) H (hLoop ag_l3 (hBlock 0 (hSeq (g22 call k [1,1,1]) (hFin Tryd.prog Tryd.f22)))) = f22_l3b call k sg_l3 (d 0) (d 3) (d 4) H := by
  unfold f22_l3b
  rw [n22_9]
  rw [n22_10]
  rw [n22_11]
  rw [s22_3]
  refine onV_c fun v1 => ?_
  refine onV_c fun v2 => ?_
  rw [hSeq_n]
  rw [n22_12]
  refine onBool_cc (by kernel_rfl) ?_ ?_
  · rw [n22_13]
    rw [hSeq_n]
    rw [n22_14]
    rw [n22_15]
    rw [n22_16]
    rw [s22_4]
    refine onV_c fun v3 => ?_
    refine onV_c fun v4 => ?_
    refine onCall_c fun v5 H6 => ?_
    refine onVH_c fun v7 H8 => ?_
    rw [hBlock_n]
    rw [hSeq_n]
    rw [n22_17]
    rw [s22_5]
    refine onV_c fun v9 => ?_
    rw [hLoop_n]
    generalize e : (FG 34 d [(4, v9), (15, v9), (14, (d 4)), (3, v7), (22, v7), (21, v5), (20, v4), (19, v3), (18, (d 4)), (17, (d 0)), (16, (d 3)), (13, v2), (12, v1), (11, (d 0)), (10, (d 4))]) = a
    rw [show a = (FF 34 (gf a)) from (FF_gf (by subst e; exact FG_len)).symm]
    exact (f22_l3_at (d := gf a) h_l3).trans (by subst e; kernel_rfl)
  · rw [n22_18]
    rw [hSeq_e, hLoop_e, hBlock_hit]
    rw [hSeq_n]
    generalize e : (FG 34 d [(13, v2), (12, v1), (11, (d 0)), (10, (d 4))]) = a
    rw [show a = (FF 34 (gf a)) from (FF_gf (by subst e; exact FG_len)).symm]
    exact (f22_r6_eq (d := gf a) call k).trans (by subst e; kernel_rfl)
noncomputable def f22_l3 (call : Handle) (k : Nat) : Nat → Value → Value → Value → GH → M (Value × GH)
  | 0, _, _, _, _ => none
  | r + 1, x0, x3, x4, H => f22_l3b call k (f22_l3 call k r) x0 x3 x4 H
theorem f22_l3_eq (call : Handle) (k : Nat) : ∀ (r : Nat), f22_l3_P (gLoop (g22 call k [1,1,0,1,0,0]) (hBlock 0 (hSeq (g22 call k [1,1,1]) (hFin Tryd.prog Tryd.f22))) r) (f22_l3 call k r) := by
  intro r
  induction r with
  | zero => unfold f22_l3_P; intros; rfl
  | succ r ih => unfold f22_l3_P; intros; exact f22_l3b_eq call k _ _ ih
noncomputable def f22_sh (call : Handle) (k : Nat) (p0 : Value) (H : GH) : M (Value × GH) :=
  onV (oLen Tryd.prog 26 p0) fun v1 =>
  onV ((oConvert Tryd.prog 3 5 v1).filter closed) fun v2 =>
  onVH (gBuildSlice Tryd.prog 24 1 [(0, v2)] H) fun v3 H4 =>
  (f22_l3 call k k p0 v3 (.int .i64 0) H4)
theorem f22_run (call : Handle) (k : Nat) (p0 : Value) (H : GH) : g22 call k [] (FG 34 (fun _ => undef) [(0, p0)]) H (hFin Tryd.prog Tryd.f22) = f22_sh call k p0 H := by
  unfold f22_sh
  rw [n22_0]
  rw [n22_1]
  rw [s22_0]
  rw [hSeq_n]
  rw [n22_2]
  rw [n22_3]
  rw [s22_1]
  refine onV_c fun v1 => ?_
  refine onV_c fun v2 => ?_
  refine onVH_c fun v3 H4 => ?_
  rw [hSeq_n]
  rw [n22_4]
  rw [n22_5]
  rw [n22_6]
  rw [s22_2]
  rw [hSeq_n]
  rw [n22_7]
  rw [n22_8]
  generalize e : (FG 34 (fun _ => undef) [(4, (.int .i64 0)), (3, v3), (9, v3), (8, v2), (7, v1), (6, p0), (2, (.slice none 0 0)), (0, p0)]) = a
  rw [show a = (FF 34 (gf a)) from (FF_gf (by subst e; exact FG_len)).symm]
  exact (f22_l3_at (d := gf a) (f22_l3_eq call k k)).trans (by subst e; kernel_rfl)
theorem f22_eq (call : Handle) (k : Nat) (p0 : Value) (H : GH) : gFunc Tryd.prog call k Tryd.f22 [p0] H = f22_sh call k p0 H :=
  Eq.trans (by kernel_rfl) (f22_run call k p0 H)
end
noncomputable def g24 {β : Type} (call : Handle) (k : Nat) (p : List Nat) : GA → GH → Kont β → M β := gCode Tryd.prog call k (fAt Tryd.f24 p)
noncomputable def o24 {β : Type} (d : Nat) (call : Handle) (p : List Nat) (i : Nat) : GA → GH → (GA → GH → M β) → M β := gOps Tryd.prog d call (opsAt (fAt Tryd.f24 p)) i ((opsAt (fAt Tryd.f24 p)).drop i)
noncomputable def t24 {β : Type} (d : Nat) (call : Handle) (p : List Nat) (i n : Nat) : GA → GH → (GA → GH → M β) → M β := gOps Tryd.prog d call (opsAt (fAt Tryd.f24 p)) i (((opsAt (fAt Tryd.f24 p)).drop i).take n)
theorem o24_s {β : Type} {d : Nat} {call : Handle} {p : List Nat} {a : GA} {H : GH} {K : GA → GH → M β} (i n : Nat) : o24 d call p i a H K = t24 d call p i n a H fun a H => o24 d call p (i + n) a H K := gOps_split i n
section
variable {β : Type} {call : Handle} {k : Nat} {a : GA} {K : Kont β} {K' : GA → GH → M β}
variable {d : Nat → Value} {xg : Value}
variable {p0 : Value}
variable {H : GH}
theorem n24_0 : g24 call k [] a H K = g24 call k [0] a H (hSeq (g24 call k [1]) K) := at_seq (by kernel_rfl)
theorem n24_1 : g24 call k [0] a H K = o24 0 call [0] 0 a H (K .normal) := at_region (by kernel_rfl)
theorem n24_2 : g24 call k [1] a H K = g24 call k [1,0] a H (hSeq (g24 call k [1,1]) K) := at_seq (by kernel_rfl)
theorem n24_3 : g24 call k [1,0] a H K = o24 0 call [1,0] 0 a H (K .normal) := at_region (by kernel_rfl)
theorem n24_4 : g24 call k [1,1] a H K = K .ret a H := at_ret (by kernel_rfl)
theorem s24_0 : o24 0 call [0] 0 (FG 9 (fun _ => undef) [(0, p0)]) H K' =
  K' (FG 9 (fun _ => undef) [(2, (.slice none 0 0)), (0, p0)]) H := by kernel_rfl
theorem s24_1 : o24 0 call [1,0] 0 (FG 9 (fun _ => undef) [(2, (.slice none 0 0)), (0, p0)]) H K' =
  onV (oLen Tryd.prog 26 p0) fun v1 =>
  onV (oLen Tryd.prog 26 p0) fun v2 =>
  onV (oSlice Tryd.prog 26 p0 none (some v1) (some v2)) fun v3 =>
  K' (FG 9 (fun _ => undef) [(2, v3), (8, v3), (7, v2), (6, p0), (5, v1), (4, p0), (3, p0), (2, (.slice none 0 0)), (0, p0)]) H := by kernel_rfl
noncomputable def f24_sh (call : Handle) (k : Nat) (p0 : Value) (H : GH) : M (Value × GH) :=
  onV (oLen Tryd.prog 26 p0) fun v1 =>
  onV (oLen Tryd.prog 26 p0) fun v2 =>
  onV (oSlice Tryd.prog 26 p0 none (some v1) (some v2)) fun v3 =>
  some [(v3, H)]
theorem f24_run (call : Handle) (k : Nat) (p0 : Value) (H : GH) : g24 call k [] (FG 9 (fun _ => undef) [(0, p0)]) H (hFin Tryd.prog Tryd.f24) = f24_sh call k p0 H := by
  unfold f24_sh
  rw [n24_0]
  rw [n24_1]
  rw [s24_0]
  rw [hSeq_n]
  rw [n24_2]
  rw [n24_3]
  rw [s24_1]
  refine onV_c fun v1 => ?_
  refine onV_c fun v2 => ?_
  refine onV_c fun v3 => ?_
  rw [hSeq_n]
  rw [n24_4]
  kernel_rfl
theorem f24_eq (call : Handle) (k : Nat) (p0 : Value) (H : GH) : gFunc Tryd.prog call k Tryd.f24 [p0] H = f24_sh call k p0 H :=
  Eq.trans (by kernel_rfl) (f24_run call k p0 H)
end
end Go.Proofs.YtdhadannleldiaaDoor
