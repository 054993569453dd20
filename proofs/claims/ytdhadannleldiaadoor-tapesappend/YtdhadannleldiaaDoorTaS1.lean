/- PRINTED by sh.py: shallow forms of functions of the program, each proved equal to what the ghost machine makes of its code. -/
import Derived.Test.YtdhadannleldiaaDoorGkTop
import Derived.Test.YtdhadannleldiaaDoorProg
namespace Go.Proofs.YtdhadannleldiaaDoor
open Go.Gh
set_option linter.unusedVariables false
set_option linter.unusedSimpArgs false
set_option maxRecDepth 100000
noncomputable def g5 {β : Type} (call : Handle) (k : Nat) (p : List Nat) : GA → GH → Kont β → M β := gCode Tryd.prog call k (fAt Tryd.f5 p)
noncomputable def o5 {β : Type} (d : Nat) (call : Handle) (p : List Nat) (i : Nat) : GA → GH → (GA → GH → M β) → M β := gOps Tryd.prog d call (opsAt (fAt Tryd.f5 p)) i ((opsAt (fAt Tryd.f5 p)).drop i)
noncomputable def t5 {β : Type} (d : Nat) (call : Handle) (p : List Nat) (i n : Nat) : GA → GH → (GA → GH → M β) → M β := gOps Tryd.prog d call (opsAt (fAt Tryd.f5 p)) i (((opsAt (fAt Tryd.f5 p)).drop i).take n)
theorem o5_s {β : Type} {d : Nat} {call : Handle} {p : List Nat} {a : GA} {H : GH} {K : GA → GH → M β} (i n : Nat) : o5 d call p i a H K = t5 d call p i n a H fun a H => o5 d call p (i + n) a H K := gOps_split i n
section
variable {β : Type} {call : Handle} {k : Nat} {a : GA} {K : Kont β} {K' : GA → GH → M β}
variable {d : Nat → Value} {xg : Value}
variable {p0 : Value}
variable {v1 v2 v3 v4 v5 v7 v9 : Value}
variable {H H10 : GH}
theorem n5_0 : g5 call k [] a H K = g5 call k [0] a H (hSeq (g5 call k [1]) K) := at_seq (by kernel_rfl)
theorem n5_1 : g5 call k [0] a H K = o5 0 call [0] 0 a H (K .normal) := at_region (by kernel_rfl)
theorem n5_2 : g5 call k [1] a H K = g5 call k [1,0] a H (hSeq (g5 call k [1,1]) K) := at_seq (by kernel_rfl)
theorem n5_3 : g5 call k [1,0] a H K = o5 0 call [1,0] 0 a H (K .normal) := at_region (by kernel_rfl)
theorem n5_4 : g5 call k [1,1] a H K = g5 call k [1,1,0] a H (hSeq (g5 call k [1,1,1]) K) := at_seq (by kernel_rfl)
theorem n5_5 : g5 call k [1,1,0] a H K = g5 call k [1,1,0,0] a H (hSeq (g5 call k [1,1,0,1]) K) := at_seq (by kernel_rfl)
theorem n5_6 : g5 call k [1,1,0,0] a H K = o5 0 call [1,1,0,0] 0 a H (K .normal) := at_region (by kernel_rfl)
theorem n5_7 : g5 call k [1,1,0,1] a H K = g5 call k [1,1,0,1,0] a H (hBlock 0 K) := at_block (by kernel_rfl)
theorem n5_8 : g5 call k [1,1,0,1,0] a H K = gLoop (g5 call k [1,1,0,1,0,0]) K k a H := at_loop (by kernel_rfl)
theorem n5_9 : g5 call k [1,1,0,1,0,0] a H K = g5 call k [1,1,0,1,0,0,0] a H (hSeq (g5 call k [1,1,0,1,0,0,1]) K) := at_seq (by kernel_rfl)
theorem n5_10 : g5 call k [1,1,0,1,0,0,0] a H K = g5 call k [1,1,0,1,0,0,0,0] a H (hSeq (g5 call k [1,1,0,1,0,0,0,1]) K) := at_seq (by kernel_rfl)
theorem n5_11 : g5 call k [1,1,0,1,0,0,0,0] a H K = o5 0 call [1,1,0,1,0,0,0,0] 0 a H (K .normal) := at_region (by kernel_rfl)
theorem n5_12 : g5 call k [1,1,0,1,0,0,0,1] a H K = onBool (asB (GA.eval a (.tmp 8))) (g5 call k [1,1,0,1,0,0,0,1,0] a H K) (g5 call k [1,1,0,1,0,0,0,1,1] a H K) := at_cond (by kernel_rfl)
theorem n5_13 : g5 call k [1,1,0,1,0,0,0,1,0] a H K = K .normal a H := at_skip (by kernel_rfl)
theorem n5_14 : g5 call k [1,1,0,1,0,0,1] a H K = g5 call k [1,1,0,1,0,0,1,0] a H (hSeq (g5 call k [1,1,0,1,0,0,1,1]) K) := at_seq (by kernel_rfl)
theorem n5_15 : g5 call k [1,1,0,1,0,0,1,0] a H K = g5 call k [1,1,0,1,0,0,1,0,0] a H (hBlock 1 K) := at_block (by kernel_rfl)
theorem n5_16 : g5 call k [1,1,0,1,0,0,1,0,0] a H K = o5 0 call [1,1,0,1,0,0,1,0,0] 0 a H (K .normal) := at_region (by kernel_rfl)
theorem n5_17 : g5 call k [1,1,0,1,0,0,1,1] a H K = o5 0 call [1,1,0,1,0,0,1,1] 0 a H (K .normal) := at_region (by kernel_rfl)
theorem n5_18 : g5 call k [1,1,0,1,0,0,0,1,1] a H K = K (.exit 0) a H := at_exit (by kernel_rfl)
theorem n5_19 : g5 call k [1,1,1] a H K = g5 call k [1,1,1,0] a H (hSeq (g5 call k [1,1,1,1]) K) := at_seq (by kernel_rfl)
theorem n5_20 : g5 call k [1,1,1,0] a H K = o5 0 call [1,1,1,0] 0 a H (K .normal) := at_region (by kernel_rfl)
theorem n5_21 : g5 call k [1,1,1,1] a H K = K .ret a H := at_ret (by kernel_rfl)
theorem s5_0 : o5 0 call [0] 0 (FG 20 (fun _ => undef) [(0, p0)]) H K' =
  K' (FG 20 (fun _ => undef) [(2, (.slice none 0 0)), (0, p0)]) H := by kernel_rfl
theorem s5_1 : o5 0 call [1,0] 0 (FG 20 (fun _ => undef) [(2, (.slice none 0 0)), (0, p0)]) H K' =
  K' (FG 20 (fun _ => undef) [(3, (.slice none 0 0)), (2, (.slice none 0 0)), (0, p0)]) H := by kernel_rfl
theorem s5_2 : o5 0 call [1,1,0,0] 0 (FG 20 (fun _ => undef) [(3, (.slice none 0 0)), (2, (.slice none 0 0)), (0, p0)]) H K' =
  K' (FG 20 (fun _ => undef) [(4, (.int .i64 0)), (3, (.slice none 0 0)), (2, (.slice none 0 0)), (0, p0)]) H := by kernel_rfl
theorem s5_3 : o5 0 call [1,1,0,1,0,0,0,0] 0 (FF 20 d) H K' =
  onV (oLen Tryd.prog 23 (d 0)) fun v1 =>
  onV ((oBin Tryd.prog .lss 3 (d 4) v1).filter closed) fun v2 =>
  K' (FG 20 d [(8, v2), (7, v1), (6, (d 0)), (5, (d 4))]) H := by kernel_rfl
theorem s5_4 : o5 0 call [1,1,0,1,0,0,1,0,0] 0 (FG 20 d [(8, v2), (7, v1), (6, (d 0)), (5, (d 4))]) H K' =
  onV (oIndexAddr Tryd.prog 23 (d 0) (d 4)) fun v3 =>
  onV (gLoad Tryd.prog 52 v3 H) fun v4 =>
  onCall 0 call (.func (.func 15) #[] #[]) [v4] H fun v5 H6 =>
  onVH (gBuildSlice Tryd.prog 26 1 [(0, v5)] H6) fun v7 H8 =>
  onVH (gAppend Tryd.prog 26 26 (d 3) v7 H8) fun v9 H10 =>
  K' (FG 20 d [(3, v9), (18, v9), (17, v7), (16, v5), (15, v4), (14, v3), (13, (d 4)), (12, (d 0)), (11, (d 3)), (8, v2), (7, v1), (6, (d 0)), (5, (d 4))]) H10 := by kernel_rfl
theorem s5_5 : o5 0 call [1,1,0,1,0,0,1,1] 0 (FG 20 d [(3, v9), (18, v9), (17, v7), (16, v5), (15, v4), (14, v3), (13, (d 4)), (12, (d 0)), (11, (d 3)), (8, v2), (7, v1), (6, (d 0)), (5, (d 4))]) H10 K' =
  onV ((oBin Tryd.prog .add 3 (d 4) (.int .i64 1)).filter closed) fun v11 =>
  K' (FG 20 d [(4, v11), (10, v11), (9, (d 4)), (3, v9), (18, v9), (17, v7), (16, v5), (15, v4), (14, v3), (13, (d 4)), (12, (d 0)), (11, (d 3)), (8, v2), (7, v1), (6, (d 0)), (5, (d 4))]) H10 := by kernel_rfl
theorem s5_6 : o5 0 call [1,1,1,0] 0 (FG 20 d [(8, v2), (7, v1), (6, (d 0)), (5, (d 4))]) H K' =
  K' (FG 20 d [(2, (d 3)), (19, (d 3)), (8, v2), (7, v1), (6, (d 0)), (5, (d 4))]) H := by kernel_rfl
def f5_l3_P (ag : AG) (sg : Sg3) : Prop := ∀ (d : Nat → Value) (H : GH), ag (FF 20 d) H = sg (d 0) (d 3) (d 4) H
theorem f5_l3_at {ag : AG} {sg : Sg3} (h : f5_l3_P ag sg) : ag (FF 20 d) H = sg (d 0) (d 3) (d 4) H := h d H
noncomputable def f5_l3b (call : Handle) (k : Nat) (sg_l3 : Sg3) (x0 x3 x4 : Value) (H : GH) : M (Value × GH) :=
  onV (oLen Tryd.prog 23 x0) fun v1 =>
  onV ((oBin Tryd.prog .lss 3 x4 v1).filter closed) fun v2 =>
  onBool (asB v2)
  (onV (oIndexAddr Tryd.prog 23 x0 x4) fun v3 =>
  onV (gLoad Tryd.prog 52 v3 H) fun v4 =>
  onCall 0 call (.func (.func 15) #[] #[]) [v4] H fun v5 H6 =>
  onVH (gBuildSlice Tryd.prog 26 1 [(0, v5)] H6) fun v7 H8 =>
  onVH (gAppend Tryd.prog 26 26 x3 v7 H8) fun v9 H10 =>
  onV ((oBin Tryd.prog .add 3 x4 (.int .i64 1)).filter closed) fun v11 =>
  (sg_l3 x0 v9 v11 H10))
  (some [(x3, H)])
theorem f5_l3b_eq (call : Handle) (k : Nat) (ag_l3 : AG) (sg_l3 : Sg3) (h_l3 : f5_l3_P ag_l3 sg_l3) : g5 call k [1,1,0,1,0,0] (FF 20 d) H (hLoop ag_l3 (hBlock 0 (hSeq (g5 call k [1,1,1]) (hFin Tryd.prog Tryd.f5)))) = f5_l3b call k sg_l3 (d 0) (d 3) (d 4) H := by
  unfold f5_l3b
  rw [n5_9]
  rw [n5_10]
  rw [n5_11]
  rw [s5_3]
  refine onV_c fun v1 => ?_
  refine onV_c fun v2 => ?_
  rw [hSeq_n]
  rw [n5_12]
  refine onBool_cc (by kernel_rfl) ?_ ?_
  · rw [n5_13]
    rw [hSeq_n]
    rw [n5_14]
    rw [n5_15]
    rw [n5_16]
    rw [s5_4]
    refine onV_c fun v3 => ?_
    refine onV_c fun v4 => ?_
    refine onCall_c fun v5 H6 => ?_
    refine onVH_c fun v7 H8 => ?_
    refine onVH_c fun v9 H10 => ?_
    rw [hBlock_n]
    rw [hSeq_n]
    rw [n5_17]
    rw [s5_5]
    refine onV_c fun v11 => ?_
    rw [hLoop_n]
    generalize e : (FG 20 d [(4, v11), (10, v11), (9, (d 4)), (3, v9), (18, v9), (17, v7), (16, v5), (15, v4), (14, v3), (13, (d 4)), (12, (d 0)), (11, (d 3)), (8, v2), (7, v1), (6, (d 0)), (5, (d 4))]) = a
    rw [show a = (FF 20 (gf a)) from (FF_gf (by subst e; exact FG_len)).symm]
    exact (f5_l3_at (d := gf a) h_l3).trans (by subst e; kernel_rfl)
  · rw [n5_18]
    rw [hSeq_e, hLoop_e, hBlock_hit]
    rw [hSeq_n]
    rw [n5_19]
    rw [n5_20]
    rw [s5_6]
    rw [hSeq_n]
    rw [n5_21]
    kernel_rfl
noncomputable def f5_l3 (call : Handle) (k : Nat) : Nat → Value → Value → Value → GH → M (Value × GH)
  | 0, _, _, _, _ => none
  | r + 1, x0, x3, x4, H => f5_l3b call k (f5_l3 call k r) x0 x3 x4 H
theorem f5_l3_eq (call : Handle) (k : Nat) : ∀ (r : Nat), f5_l3_P (gLoop (g5 call k [1,1,0,1,0,0]) (hBlock 0 (hSeq (g5 call k [1,1,1]) (hFin Tryd.prog Tryd.f5))) r) (f5_l3 call k r) := by
  intro r
  induction r with
  | zero => unfold f5_l3_P; intros; rfl
  | succ r ih => unfold f5_l3_P; intros; exact f5_l3b_eq call k _ _ ih
noncomputable def f5_sh (call : Handle) (k : Nat) (p0 : Value) (H : GH) : M (Value × GH) :=
  (f5_l3 call k k p0 (.slice none 0 0) (.int .i64 0) H)
theorem f5_run (call : Handle) (k : Nat) (p0 : Value) (H : GH) : g5 call k [] (FG 20 (fun _ => undef) [(0, p0)]) H (hFin Tryd.prog Tryd.f5) = f5_sh call k p0 H := by
  unfold f5_sh
  rw [n5_0]
  rw [n5_1]
  rw [s5_0]
  rw [hSeq_n]
  rw [n5_2]
  rw [n5_3]
  rw [s5_1]
  rw [hSeq_n]
  rw [n5_4]
  rw [n5_5]
  rw [n5_6]
  rw [s5_2]
  rw [hSeq_n]
  rw [n5_7]
  rw [n5_8]
  generalize e : (FG 20 (fun _ => undef) [(4, (.int .i64 0)), (3, (.slice none 0 0)), (2, (.slice none 0 0)), (0, p0)]) = a
  rw [show a = (FF 20 (gf a)) from (FF_gf (by subst e; exact FG_len)).symm]
  exact (f5_l3_at (d := gf a) (f5_l3_eq call k k)).trans (by subst e; kernel_rfl)
theorem f5_eq (call : Handle) (k : Nat) (p0 : Value) (H : GH) : gFunc Tryd.prog call k Tryd.f5 [p0] H = f5_sh call k p0 H :=
  Eq.trans (by kernel_rfl) (f5_run call k p0 H)
end
noncomputable def g6 {β : Type} (call : Handle) (k : Nat) (p : List Nat) : GA → GH → Kont β → M β := gCode Tryd.prog call k (fAt Tryd.f6 p)
noncomputable def o6 {β : Type} (d : Nat) (call : Handle) (p : List Nat) (i : Nat) : GA → GH → (GA → GH → M β) → M β := gOps Tryd.prog d call (opsAt (fAt Tryd.f6 p)) i ((opsAt (fAt Tryd.f6 p)).drop i)
noncomputable def t6 {β : Type} (d : Nat) (call : Handle) (p : List Nat) (i n : Nat) : GA → GH → (GA → GH → M β) → M β := gOps Tryd.prog d call (opsAt (fAt Tryd.f6 p)) i (((opsAt (fAt Tryd.f6 p)).drop i).take n)
theorem o6_s {β : Type} {d : Nat} {call : Handle} {p : List Nat} {a : GA} {H : GH} {K : GA → GH → M β} (i n : Nat) : o6 d call p i a H K = t6 d call p i n a H fun a H => o6 d call p (i + n) a H K := gOps_split i n
section
variable {β : Type} {call : Handle} {k : Nat} {a : GA} {K : Kont β} {K' : GA → GH → M β}
variable {d : Nat → Value} {xg : Value}
variable {p0 p1 : Value}
variable {v1 v2 v3 v4 v5 v6 v7 v9 : Value}
variable {H H1 H2 H5 H8 : GH}
theorem n6_0 : g6 call k [] a H K = g6 call k [0] a H (hSeq (g6 call k [1]) K) := at_seq (by kernel_rfl)
theorem n6_1 : g6 call k [0] a H K = o6 0 call [0] 0 a H (K .normal) := at_region (by kernel_rfl)
theorem n6_2 : g6 call k [1] a H K = g6 call k [1,0] a H (hSeq (g6 call k [1,1]) K) := at_seq (by kernel_rfl)
theorem n6_3 : g6 call k [1,0] a H K = o6 0 call [1,0] 0 a H (K .normal) := at_region (by kernel_rfl)
theorem n6_4 : g6 call k [1,1] a H K = g6 call k [1,1,0] a H (hSeq (g6 call k [1,1,1]) K) := at_seq (by kernel_rfl)
theorem n6_5 : g6 call k [1,1,0] a H K = g6 call k [1,1,0,0] a H (hSeq (g6 call k [1,1,0,1]) K) := at_seq (by kernel_rfl)
theorem n6_6 : g6 call k [1,1,0,0] a H K = o6 0 call [1,1,0,0] 0 a H (K .normal) := at_region (by kernel_rfl)
theorem n6_7 : g6 call k [1,1,0,1] a H K = onBool (asB (GA.eval a (.tmp 17))) (g6 call k [1,1,0,1,0] a H K) (g6 call k [1,1,0,1,1] a H K) := at_cond (by kernel_rfl)
theorem n6_8 : g6 call k [1,1,0,1,0] a H K = g6 call k [1,1,0,1,0,0] a H (hSeq (g6 call k [1,1,0,1,0,1]) K) := at_seq (by kernel_rfl)
theorem n6_9 : g6 call k [1,1,0,1,0,0] a H K = o6 0 call [1,1,0,1,0,0] 0 a H (K .normal) := at_region (by kernel_rfl)
theorem n6_10 : g6 call k [1,1,0,1,0,1] a H K = K .ret a H := at_ret (by kernel_rfl)
theorem n6_11 : g6 call k [1,1,0,1,1] a H K = K .normal a H := at_skip (by kernel_rfl)
theorem n6_12 : g6 call k [1,1,1] a H K = g6 call k [1,1,1,0] a H (hSeq (g6 call k [1,1,1,1]) K) := at_seq (by kernel_rfl)
theorem n6_13 : g6 call k [1,1,1,0] a H K = g6 call k [1,1,1,0,0] a H (hSeq (g6 call k [1,1,1,0,1]) K) := at_seq (by kernel_rfl)
theorem n6_14 : g6 call k [1,1,1,0,0] a H K = o6 0 call [1,1,1,0,0] 0 a H (K .normal) := at_region (by kernel_rfl)
theorem n6_15 : g6 call k [1,1,1,0,1] a H K = onBool (asB (GA.eval a (.tmp 25))) (g6 call k [1,1,1,0,1,0] a H K) (g6 call k [1,1,1,0,1,1] a H K) := at_cond (by kernel_rfl)
theorem n6_16 : g6 call k [1,1,1,0,1,0] a H K = g6 call k [1,1,1,0,1,0,0] a H (hSeq (g6 call k [1,1,1,0,1,0,1]) K) := at_seq (by kernel_rfl)
theorem n6_17 : g6 call k [1,1,1,0,1,0,0] a H K = o6 0 call [1,1,1,0,1,0,0] 0 a H (K .normal) := at_region (by kernel_rfl)
theorem n6_18 : g6 call k [1,1,1,0,1,0,1] a H K = K .ret a H := at_ret (by kernel_rfl)
theorem n6_19 : g6 call k [1,1,1,0,1,1] a H K = K .normal a H := at_skip (by kernel_rfl)
theorem n6_20 : g6 call k [1,1,1,1] a H K = g6 call k [1,1,1,1,0] a H (hSeq (g6 call k [1,1,1,1,1]) K) := at_seq (by kernel_rfl)
theorem n6_21 : g6 call k [1,1,1,1,0] a H K = g6 call k [1,1,1,1,0,0] a H (hSeq (g6 call k [1,1,1,1,0,1]) K) := at_seq (by kernel_rfl)
theorem n6_22 : g6 call k [1,1,1,1,0,0] a H K = o6 0 call [1,1,1,1,0,0] 0 a H (K .normal) := at_region (by kernel_rfl)
theorem n6_23 : g6 call k [1,1,1,1,0,1] a H K = g6 call k [1,1,1,1,0,1,0] a H (hSeq (g6 call k [1,1,1,1,0,1,1]) K) := at_seq (by kernel_rfl)
theorem n6_24 : g6 call k [1,1,1,1,0,1,0] a H K = o6 0 call [1,1,1,1,0,1,0] 0 a H (K .normal) := at_region (by kernel_rfl)
theorem n6_25 : g6 call k [1,1,1,1,0,1,1] a H K = onBool (asB (GA.eval a (.tmp 29))) (g6 call k [1,1,1,1,0,1,1,0] a H K) (g6 call k [1,1,1,1,0,1,1,1] a H K) := at_cond (by kernel_rfl)
theorem n6_26 : g6 call k [1,1,1,1,0,1,1,0] a H K = g6 call k [1,1,1,1,0,1,1,0,0] a H (hSeq (g6 call k [1,1,1,1,0,1,1,0,1]) K) := at_seq (by kernel_rfl)
theorem n6_27 : g6 call k [1,1,1,1,0,1,1,0,0] a H K = o6 0 call [1,1,1,1,0,1,1,0,0] 0 a H (K .normal) := at_region (by kernel_rfl)
theorem n6_28 : g6 call k [1,1,1,1,0,1,1,0,1] a H K = K .ret a H := at_ret (by kernel_rfl)
theorem n6_29 : g6 call k [1,1,1,1,0,1,1,1] a H K = K .normal a H := at_skip (by kernel_rfl)
theorem n6_30 : g6 call k [1,1,1,1,1] a H K = g6 call k [1,1,1,1,1,0] a H (hSeq (g6 call k [1,1,1,1,1,1]) K) := at_seq (by kernel_rfl)
theorem n6_31 : g6 call k [1,1,1,1,1,0] a H K = o6 0 call [1,1,1,1,1,0] 0 a H (K .normal) := at_region (by kernel_rfl)
theorem n6_32 : g6 call k [1,1,1,1,1,1] a H K = g6 call k [1,1,1,1,1,1,0] a H (hSeq (g6 call k [1,1,1,1,1,1,1]) K) := at_seq (by kernel_rfl)
theorem n6_33 : g6 call k [1,1,1,1,1,1,0] a H K = g6 call k [1,1,1,1,1,1,0,0] a H (hSeq (g6 call k [1,1,1,1,1,1,0,1]) K) := at_seq (by kernel_rfl)
theorem n6_34 : g6 call k [1,1,1,1,1,1,0,0] a H K = o6 0 call [1,1,1,1,1,1,0,0] 0 a H (K .normal) := at_region (by kernel_rfl)
theorem n6_35 : g6 call k [1,1,1,1,1,1,0,1] a H K = onBool (asB (GA.eval a (.tmp 35))) (g6 call k [1,1,1,1,1,1,0,1,0] a H K) (g6 call k [1,1,1,1,1,1,0,1,1] a H K) := at_cond (by kernel_rfl)
theorem n6_36 : g6 call k [1,1,1,1,1,1,0,1,0] a H K = o6 0 call [1,1,1,1,1,1,0,1,0] 0 a H (K .normal) := at_region (by kernel_rfl)
theorem n6_37 : g6 call k [1,1,1,1,1,1,0,1,1] a H K = K .normal a H := at_skip (by kernel_rfl)
theorem n6_38 : g6 call k [1,1,1,1,1,1,1] a H K = g6 call k [1,1,1,1,1,1,1,0] a H (hSeq (g6 call k [1,1,1,1,1,1,1,1]) K) := at_seq (by kernel_rfl)
theorem n6_39 : g6 call k [1,1,1,1,1,1,1,0] a H K = g6 call k [1,1,1,1,1,1,1,0,0] a H (hSeq (g6 call k [1,1,1,1,1,1,1,0,1]) K) := at_seq (by kernel_rfl)
theorem n6_40 : g6 call k [1,1,1,1,1,1,1,0,0] a H K = o6 0 call [1,1,1,1,1,1,1,0,0] 0 a H (K .normal) := at_region (by kernel_rfl)
theorem n6_41 : g6 call k [1,1,1,1,1,1,1,0,1] a H K = g6 call k [1,1,1,1,1,1,1,0,1,0] a H (hBlock 0 K) := at_block (by kernel_rfl)
theorem n6_42 : g6 call k [1,1,1,1,1,1,1,0,1,0] a H K = onFunc (GA.eval a (.tmp 39)) fun g => bindM (call g [.func (.yield H.n) #[] #[]] (GH.push H (.loop .ready none a [40] (fAt Tryd.f6 [1,1,1,1,1,1,1,0,1,0,0]) (fAt Tryd.f6 [1,1,1,1,1,1,1,0,1,0,1])))) fun z => onEnd H.n z.2 (fun H => K .normal a H) (fun H => K .ret a H) (fun id H => K (.exit id) a H) := at_rangeFunc (ps := #[40]) (by kernel_rfl)
theorem n6_43 : g6 call k [1,1,1,1,1,1,1,0,1,0,0] a H K = o6 0 call [1,1,1,1,1,1,1,0,1,0,0] 0 a H (K .normal) := at_region (by kernel_rfl)
theorem n6_44 : g6 call k [1,1,1,1,1,1,1,0,1,0,1] a H K = g6 call k [1,1,1,1,1,1,1,0,1,0,1,0] a H (hBlock 1 K) := at_block (by kernel_rfl)
theorem n6_45 : g6 call k [1,1,1,1,1,1,1,0,1,0,1,0] a H K = o6 2 call [1,1,1,1,1,1,1,0,1,0,1,0] 0 a H (K .normal) := at_region (by kernel_rfl)
theorem n6_46 : g6 call k [1,1,1,1,1,1,1,1] a H K = g6 call k [1,1,1,1,1,1,1,1,0] a H (hSeq (g6 call k [1,1,1,1,1,1,1,1,1]) K) := at_seq (by kernel_rfl)
theorem n6_47 : g6 call k [1,1,1,1,1,1,1,1,0] a H K = o6 0 call [1,1,1,1,1,1,1,1,0] 0 a H (K .normal) := at_region (by kernel_rfl)
theorem n6_48 : g6 call k [1,1,1,1,1,1,1,1,1] a H K = K .ret a H := at_ret (by kernel_rfl)
theorem s6_0 : o6 0 call [0] 0 (FG 47 (fun _ => undef) [(1, p1), (0, p0)]) H K' =
  K' (FG 47 (fun _ => undef) [(5, (.int .i64 0)), (4, (.slice none 0 0)), (1, p1), (0, p0)]) H := by kernel_rfl
theorem s6_1 : o6 0 call [1,0] 0 (FG 47 (fun _ => undef) [(5, (.int .i64 0)), (4, (.slice none 0 0)), (1, p1), (0, p0)]) H K' =
  onCall 0 call (.func (.func 16) #[] #[]) [p0] H fun v1 H2 =>
  onV (oExtract v1 0) fun v3 =>
  onV (oExtract v1 1) fun v4 =>
  onH (gStore Tryd.prog 55 (.pointer (some ⟨H2.n, 0, none⟩)) v3 (GH.push H2 (.row [(.slice none 0 0), (.bool false), (.bool false), (.int .i64 0)] 55 false))) fun H5 =>
  K' (FG 47 (fun _ => undef) [(7, v4), (6, (.pointer (some ⟨H2.n, 0, none⟩))), (15, v4), (14, v3), (11, v1), (13, v1), (12, p0), (5, (.int .i64 0)), (4, (.slice none 0 0)), (1, p1), (0, p0)]) H5 := by kernel_rfl
theorem s6_2 : o6 0 call [1,1,0,0] 0 (FG 47 (fun _ => undef) [(7, v4), (6, (.pointer (some ⟨H2.n, 0, none⟩))), (15, v4), (14, v3), (11, v1), (13, v1), (12, p0), (5, (.int .i64 0)), (4, (.slice none 0 0)), (1, p1), (0, p0)]) H5 K' =
  onV ((oBin Tryd.prog .neq 28 v4 (.int .i64 0)).filter closed) fun v6 =>
  K' (FG 47 (fun _ => undef) [(17, v6), (16, v4), (7, v4), (6, (.pointer (some ⟨H2.n, 0, none⟩))), (15, v4), (14, v3), (11, v1), (13, v1), (12, p0), (5, (.int .i64 0)), (4, (.slice none 0 0)), (1, p1), (0, p0)]) H5 := by kernel_rfl
theorem s6_3 : o6 0 call [1,1,0,1,0,0] 0 (FG 47 (fun _ => undef) [(17, v6), (16, v4), (7, v4), (6, (.pointer (some ⟨H2.n, 0, none⟩))), (15, v4), (14, v3), (11, v1), (13, v1), (12, p0), (5, (.int .i64 0)), (4, (.slice none 0 0)), (1, p1), (0, p0)]) H5 K' =
  K' (FG 47 (fun _ => undef) [(5, v4), (4, (.slice none 0 0)), (18, v4), (17, v6), (16, v4), (7, v4), (6, (.pointer (some ⟨H2.n, 0, none⟩))), (15, v4), (14, v3), (11, v1), (13, v1), (12, p0), (5, (.int .i64 0)), (4, (.slice none 0 0)), (1, p1), (0, p0)]) H5 := by kernel_rfl
theorem s6_4 : o6 0 call [1,1,1,0,0] 0 (FG 47 d [(46, undef), (45, undef), (44, undef), (43, undef), (42, undef), (41, undef), (40, undef), (37, undef), (36, undef), (30, undef), (10, undef), (3, undef), (2, undef)]) H K' =
  onV (oFieldAddr Tryd.prog 55 (d 6) 0) fun v1 =>
  onV (gLoad Tryd.prog 26 v1 H) fun v2 =>
  onV (oLen Tryd.prog 26 v2) fun v3 =>
  onV (oLen Tryd.prog 26 (d 1)) fun v4 =>
  onV ((oBin Tryd.prog .add 3 v3 v4).filter closed) fun v5 =>
  onV ((oBin Tryd.prog .gtr 3 v5 (.int .i64 4096)).filter closed) fun v6 =>
  K' (FG 47 d [(25, v6), (24, v5), (23, v4), (22, (d 1)), (21, v3), (20, v2), (19, v1), (46, undef), (45, undef), (44, undef), (43, undef), (42, undef), (41, undef), (40, undef), (37, undef), (36, undef), (30, undef), (10, undef), (3, undef), (2, undef)]) H := by kernel_rfl
theorem s6_5 : o6 0 call [1,1,1,0,1,0,0] 0 (FG 47 d [(25, v6), (24, v5), (23, v4), (22, (d 1)), (21, v3), (20, v2), (19, v1), (46, undef), (45, undef), (44, undef), (43, undef), (42, undef), (41, undef), (40, undef), (37, undef), (36, undef), (30, undef), (10, undef), (3, undef), (2, undef)]) H K' =
  K' (FG 47 d [(5, (.int .i64 3)), (4, (.slice none 0 0)), (25, v6), (24, v5), (23, v4), (22, (d 1)), (21, v3), (20, v2), (19, v1), (46, undef), (45, undef), (44, undef), (43, undef), (42, undef), (41, undef), (40, undef), (37, undef), (36, undef), (30, undef), (10, undef), (3, undef), (2, undef)]) H := by kernel_rfl
theorem s6_6 : o6 0 call [1,1,1,1,0,0] 0 (FG 47 d [(25, v6), (24, v5), (23, v4), (22, (d 1)), (21, v3), (20, v2), (19, v1), (46, undef), (45, undef), (44, undef), (43, undef), (42, undef), (41, undef), (40, undef), (37, undef), (36, undef), (30, undef), (10, undef), (3, undef), (2, undef)]) H K' =
  onCall 0 call (.func (.func 17) #[] #[]) [(d 1)] H fun v7 H8 =>
  K' (FG 47 d [(8, v7), (27, v7), (26, (d 1)), (25, v6), (24, v5), (23, v4), (22, (d 1)), (21, v3), (20, v2), (19, v1), (46, undef), (45, undef), (44, undef), (43, undef), (42, undef), (41, undef), (40, undef), (37, undef), (36, undef), (30, undef), (10, undef), (3, undef), (2, undef)]) H8 := by kernel_rfl
theorem s6_7 : o6 0 call [1,1,1,1,0,1,0] 0 (FG 47 d [(8, v7), (27, v7), (26, (d 1)), (25, v6), (24, v5), (23, v4), (22, (d 1)), (21, v3), (20, v2), (19, v1), (46, undef), (45, undef), (44, undef), (43, undef), (42, undef), (41, undef), (40, undef), (37, undef), (36, undef), (30, undef), (10, undef), (3, undef), (2, undef)]) H8 K' =
  onV ((oBin Tryd.prog .neq 28 v7 (.int .i64 0)).filter closed) fun v9 =>
  K' (FG 47 d [(29, v9), (28, v7), (8, v7), (27, v7), (26, (d 1)), (25, v6), (24, v5), (23, v4), (22, (d 1)), (21, v3), (20, v2), (19, v1), (46, undef), (45, undef), (44, undef), (43, undef), (42, undef), (41, undef), (40, undef), (37, undef), (36, undef), (30, undef), (10, undef), (3, undef), (2, undef)]) H8 := by kernel_rfl
theorem s6_8 : o6 0 call [1,1,1,1,0,1,1,0,0] 0 (FG 47 d [(29, v9), (28, v7), (8, v7), (27, v7), (26, (d 1)), (25, v6), (24, v5), (23, v4), (22, (d 1)), (21, v3), (20, v2), (19, v1), (46, undef), (45, undef), (44, undef), (43, undef), (42, undef), (41, undef), (40, undef), (37, undef), (36, undef), (30, undef), (10, undef), (3, undef), (2, undef)]) H8 K' =
  K' (FG 47 d [(5, v7), (4, (.slice none 0 0)), (30, v7), (29, v9), (28, v7), (8, v7), (27, v7), (26, (d 1)), (25, v6), (24, v5), (23, v4), (22, (d 1)), (21, v3), (20, v2), (19, v1), (46, undef), (45, undef), (44, undef), (43, undef), (42, undef), (41, undef), (40, undef), (37, undef), (36, undef), (30, undef), (10, undef), (3, undef), (2, undef)]) H8 := by kernel_rfl
theorem s6_9 : o6 0 call [1,1,1,1,1,0] 0 (FG 47 d [(29, v9), (28, v7), (8, v7), (27, v7), (26, (d 1)), (25, v6), (24, v5), (23, v4), (22, (d 1)), (21, v3), (20, v2), (19, v1), (46, undef), (45, undef), (44, undef), (43, undef), (42, undef), (41, undef), (40, undef), (37, undef), (36, undef), (30, undef), (10, undef), (3, undef), (2, undef)]) H8 K' =
  onCall 0 call (.func (.func 18) #[] #[]) [(d 0)] H8 fun v10 H11 =>
  onH (gStore Tryd.prog 24 (.pointer (some ⟨H11.n, 0, none⟩)) v10 (GH.push H11 (.row [(.slice none 0 0)] 24 false))) fun H12 =>
  K' (FG 47 d [(9, (.pointer (some ⟨H11.n, 0, none⟩))), (32, v10), (31, (d 0)), (29, v9), (28, v7), (8, v7), (27, v7), (26, (d 1)), (25, v6), (24, v5), (23, v4), (22, (d 1)), (21, v3), (20, v2), (19, v1), (46, undef), (45, undef), (44, undef), (43, undef), (42, undef), (41, undef), (40, undef), (37, undef), (36, undef), (30, undef), (10, undef), (3, undef), (2, undef)]) H12 := by kernel_rfl
theorem s6_10 : o6 0 call [1,1,1,1,1,1,0,0] 0 (FG 47 d [(46, undef), (45, undef), (44, undef), (43, undef), (42, undef), (41, undef), (40, undef), (37, undef), (36, undef), (10, undef), (3, undef), (2, undef)]) H K' =
  onV (oLen Tryd.prog 24 (d 0)) fun v1 =>
  onV ((oBin Tryd.prog .eql 3 v1 (.int .i64 0)).filter closed) fun v2 =>
  K' (FG 47 d [(35, v2), (34, v1), (33, (d 0)), (46, undef), (45, undef), (44, undef), (43, undef), (42, undef), (41, undef), (40, undef), (37, undef), (36, undef), (10, undef), (3, undef), (2, undef)]) H := by kernel_rfl
theorem s6_11 : o6 0 call [1,1,1,1,1,1,0,1,0] 0 (FG 47 d [(35, v2), (34, v1), (33, (d 0)), (46, undef), (45, undef), (44, undef), (43, undef), (42, undef), (41, undef), (40, undef), (37, undef), (36, undef), (10, undef), (3, undef), (2, undef)]) H K' =
  onV (oSlice Tryd.prog 60 (.pointer (some ⟨0, 0, none⟩)) none none none) fun v3 =>
  onCall 0 call (.func (.func 18) #[] #[]) [v3] H fun v4 H5 =>
  onH (gStore Tryd.prog 24 (d 9) v4 H5) fun H6 =>
  K' (FG 47 d [(37, v4), (36, v3), (35, v2), (34, v1), (33, (d 0)), (46, undef), (45, undef), (44, undef), (43, undef), (42, undef), (41, undef), (40, undef), (37, undef), (36, undef), (10, undef), (3, undef), (2, undef)]) H6 := by kernel_rfl
theorem s6_12 : o6 0 call [1,1,1,1,1,1,1,0,0] 0 (FG 47 d [(46, undef), (45, undef), (44, undef), (43, undef), (42, undef), (41, undef), (40, undef), (10, undef), (3, undef), (2, undef)]) H K' =
  onCall 0 call (.func (.func 19) #[] #[]) [(d 1), (.int .i64 32)] H fun v1 H2 =>
  K' (FG 47 d [(39, v1), (38, (d 1)), (46, undef), (45, undef), (44, undef), (43, undef), (42, undef), (41, undef), (40, undef), (10, undef), (3, undef), (2, undef)]) H2 := by kernel_rfl
theorem s6_13 : o6 0 call [1,1,1,1,1,1,1,0,1,0,0] 0 (FF 47 d) H K' =
  K' (FG 47 d [(10, (d 40))]) H := by kernel_rfl
theorem s6_14 : o6 2 call [1,1,1,1,1,1,1,0,1,0,1,0] 0 (FG 47 d [(10, (d 40))]) H1 K' =
  onV (gLoad Tryd.prog 24 (d 9) H1) fun v2 =>
  onCall 2 call (.func (.func 20) #[] #[]) [(d 40)] H1 fun v3 H4 =>
  onVH (gAppend Tryd.prog 24 24 v2 v3 H4) fun v5 H6 =>
  onH (gStore Tryd.prog 24 (d 9) v5 H6) fun H7 =>
  K' (FG 47 d [(44, v5), (43, v3), (42, (d 40)), (41, v2), (10, (d 40))]) H7 := by kernel_rfl
theorem s6_15 : o6 0 call [1,1,1,1,1,1,1,1,0] 0 (FF 47 d) H K' =
  onV (gLoad Tryd.prog 24 (d 9) H) fun v1 =>
  onCall 0 call (.func (.func 21) #[] #[]) [v1] H fun v2 H3 =>
  K' (FG 47 d [(5, (.int .i64 0)), (4, v2), (46, v2), (45, v1)]) H3 := by kernel_rfl
noncomputable def f6_r15 (call : Handle) (k : Nat) (x9 : Value) (H : GH) : M (Value × GH) :=
  onV (gLoad Tryd.prog 24 x9 H) fun v1 =>
  onCall 0 call (.func (.func 21) #[] #[]) [v1] H fun v2 H3 =>
  some [((.tuple #[v2, (.int .i64 0)]), H3)]
theorem f6_r15_eq (call : Handle) (k : Nat) : g6 call k [1,1,1,1,1,1,1,1] (FF 47 d) H (hFin Tryd.prog Tryd.f6) = f6_r15 call k (d 9) H := by
  unfold f6_r15
  rw [n6_46]
  rw [n6_47]
  rw [s6_15]
  refine onV_c fun v1 => ?_
  refine onCall_c fun v2 H3 => ?_
  rw [hSeq_n]
  rw [n6_48]
  kernel_rfl
noncomputable def f6_r12 (call : Handle) (k : Nat) (x0 x1 x4 x5 x6 x7 x8 x9 x11 x12 x13 x14 x15 x16 x17 x18 x19 x20 x21 x22 x23 x24 x25 x26 x27 x28 x29 x30 x31 x32 x33 x34 x35 x36 x37 : Value) (H : GH) : M (Value × GH) :=
  onCall 0 call (.func (.func 19) #[] #[]) [x1, (.int .i64 32)] H fun v1 H2 =>
  onFunc v1 fun g => bindM (call g [.func (.yield H2.n) #[] #[]] (GH.push H2 (.loop .ready none [x0, x1, undef, undef, x4, x5, x6, x7, x8, x9, undef, x11, x12, x13, x14, x15, x16, x17, x18, x19, x20, x21, x22, x23, x24, x25, x26, x27, x28, x29, x30, x31, x32, x33, x34, x35, x36, x37, x1, v1, undef, undef, undef, undef, undef, undef, undef] [40] (fAt Tryd.f6 [1,1,1,1,1,1,1,0,1,0,0]) (fAt Tryd.f6 [1,1,1,1,1,1,1,0,1,0,1])))) fun x =>
 onEnd H2.n x.2
  (fun H3 => (f6_r15 call k x9 H3))
  (fun H3 => some [((.tuple #[x4, x5]), H3)])
  (fun i4 H3 => if i4 = 0 then ((f6_r15 call k x9 H3)) else (none))
theorem f6_r12_eq (call : Handle) (k : Nat) : g6 call k [1,1,1,1,1,1,1] (FG 47 d [(46, undef), (45, undef), (44, undef), (43, undef), (42, undef), (41, undef), (40, undef), (10, undef), (3, undef), (2, undef)]) H (hFin Tryd.prog Tryd.f6) = f6_r12 call k (d 0) (d 1) (d 4) (d 5) (d 6) (d 7) (d 8) (d 9) (d 11) (d 12) (d 13) (d 14) (d 15) (d 16) (d 17) (d 18) (d 19) (d 20) (d 21) (d 22) (d 23) (d 24) (d 25) (d 26) (d 27) (d 28) (d 29) (d 30) (d 31) (d 32) (d 33) (d 34) (d 35) (d 36) (d 37) H := by
  unfold f6_r12
  rw [n6_38]
  rw [n6_39]
  rw [n6_40]
  rw [s6_12]
  refine onCall_c fun v1 H2 => ?_
  rw [hSeq_n]
  rw [n6_41]
  rw [n6_42]
  refine onRange_cf (by kernel_rfl) (by kernel_rfl) fun z => ?_
  refine onEnd_c (fun H3 => ?_) (fun H3 => ?_) (fun i4 H3 => ?_)
  · rw [hBlock_n]
    rw [hSeq_n]
    generalize e : (FG 47 d [(39, v1), (38, (d 1)), (46, undef), (45, undef), (44, undef), (43, undef), (42, undef), (41, undef), (40, undef), (10, undef), (3, undef), (2, undef)]) = a
    rw [show a = (FF 47 (gf a)) from (FF_gf (by subst e; exact FG_len)).symm]
    exact (f6_r15_eq (d := gf a) call k).trans (by subst e; kernel_rfl)
  · rw [hBlock_r, hSeq_r]
    kernel_rfl
  · rw [hBlock_e]
    refine ite_c ?_ ?_
    · rw [hSeq_n]
      generalize e : (FG 47 d [(39, v1), (38, (d 1)), (46, undef), (45, undef), (44, undef), (43, undef), (42, undef), (41, undef), (40, undef), (10, undef), (3, undef), (2, undef)]) = a
      rw [show a = (FF 47 (gf a)) from (FF_gf (by subst e; exact FG_len)).symm]
      exact (f6_r15_eq (d := gf a) call k).trans (by subst e; kernel_rfl)
    · rw [hSeq_e]
      exact hFin_e
noncomputable def f6_r10 (call : Handle) (k : Nat) (x0 x1 x4 x5 x6 x7 x8 x9 x11 x12 x13 x14 x15 x16 x17 x18 x19 x20 x21 x22 x23 x24 x25 x26 x27 x28 x29 x30 x31 x32 : Value) (H : GH) : M (Value × GH) :=
  onV (oLen Tryd.prog 24 x0) fun v1 =>
  onV ((oBin Tryd.prog .eql 3 v1 (.int .i64 0)).filter closed) fun v2 =>
  onBool (asB v2)
  (onV (oSlice Tryd.prog 60 (.pointer (some ⟨0, 0, none⟩)) none none none) fun v3 =>
  onCall 0 call (.func (.func 18) #[] #[]) [v3] H fun v4 H5 =>
  onH (gStore Tryd.prog 24 x9 v4 H5) fun H6 =>
  (f6_r12 call k x0 x1 x4 x5 x6 x7 x8 x9 x11 x12 x13 x14 x15 x16 x17 x18 x19 x20 x21 x22 x23 x24 x25 x26 x27 x28 x29 x30 x31 x32 x0 v1 v2 v3 v4 H6))
  ((f6_r12 call k x0 x1 x4 x5 x6 x7 x8 x9 x11 x12 x13 x14 x15 x16 x17 x18 x19 x20 x21 x22 x23 x24 x25 x26 x27 x28 x29 x30 x31 x32 x0 v1 v2 undef undef H))
theorem f6_r10_eq (call : Handle) (k : Nat) : g6 call k [1,1,1,1,1,1,0,0] (FG 47 d [(46, undef), (45, undef), (44, undef), (43, undef), (42, undef), (41, undef), (40, undef), (37, undef), (36, undef), (10, undef), (3, undef), (2, undef)]) H (hSeq (g6 call k [1,1,1,1,1,1,0,1]) (hSeq (g6 call k [1,1,1,1,1,1,1]) (hFin Tryd.prog Tryd.f6))) = f6_r10 call k (d 0) (d 1) (d 4) (d 5) (d 6) (d 7) (d 8) (d 9) (d 11) (d 12) (d 13) (d 14) (d 15) (d 16) (d 17) (d 18) (d 19) (d 20) (d 21) (d 22) (d 23) (d 24) (d 25) (d 26) (d 27) (d 28) (d 29) (d 30) (d 31) (d 32) H := by
  unfold f6_r10
  rw [n6_34]
  rw [s6_10]
  refine onV_c fun v1 => ?_
  refine onV_c fun v2 => ?_
  rw [hSeq_n]
  rw [n6_35]
  refine onBool_cc (by kernel_rfl) ?_ ?_
  · rw [n6_36]
    rw [s6_11]
    refine onV_c fun v3 => ?_
    refine onCall_c fun v4 H5 => ?_
    refine onH_c fun H6 => ?_
    rw [hSeq_n]
    generalize e : (FG 47 d [(37, v4), (36, v3), (35, v2), (34, v1), (33, (d 0)), (46, undef), (45, undef), (44, undef), (43, undef), (42, undef), (41, undef), (40, undef), (37, undef), (36, undef), (10, undef), (3, undef), (2, undef)]) = a
    rw [show a = (FG 47 (gf a) [(46, undef), (45, undef), (44, undef), (43, undef), (42, undef), (41, undef), (40, undef), (10, undef), (3, undef), (2, undef)]) from (FG_eq (by subst e; exact FG_len) (FS_cons (by subst e; kernel_rfl) (FS_cons (by subst e; kernel_rfl) (FS_cons (by subst e; kernel_rfl) (FS_cons (by subst e; kernel_rfl) (FS_cons (by subst e; kernel_rfl) (FS_cons (by subst e; kernel_rfl) (FS_cons (by subst e; kernel_rfl) (FS_cons (by subst e; kernel_rfl) (FS_cons (by subst e; kernel_rfl) (FS_cons (by subst e; kernel_rfl) (FS_nil)))))))))))).symm]
    exact (f6_r12_eq (d := gf a) call k).trans (by subst e; kernel_rfl)
  · rw [n6_37]
    rw [hSeq_n]
    generalize e : (FG 47 d [(35, v2), (34, v1), (33, (d 0)), (46, undef), (45, undef), (44, undef), (43, undef), (42, undef), (41, undef), (40, undef), (37, undef), (36, undef), (10, undef), (3, undef), (2, undef)]) = a
    rw [show a = (FG 47 (gf a) [(46, undef), (45, undef), (44, undef), (43, undef), (42, undef), (41, undef), (40, undef), (10, undef), (3, undef), (2, undef)]) from (FG_eq (by subst e; exact FG_len) (FS_cons (by subst e; kernel_rfl) (FS_cons (by subst e; kernel_rfl) (FS_cons (by subst e; kernel_rfl) (FS_cons (by subst e; kernel_rfl) (FS_cons (by subst e; kernel_rfl) (FS_cons (by subst e; kernel_rfl) (FS_cons (by subst e; kernel_rfl) (FS_cons (by subst e; kernel_rfl) (FS_cons (by subst e; kernel_rfl) (FS_cons (by subst e; kernel_rfl) (FS_nil)))))))))))).symm]
    exact (f6_r12_eq (d := gf a) call k).trans (by subst e; kernel_rfl)
noncomputable def f6_r4 (call : Handle) (k : Nat) (x0 x1 x4 x5 x6 x7 x11 x12 x13 x14 x15 x16 x17 x18 : Value) (H : GH) : M (Value × GH) :=
  onV (oFieldAddr Tryd.prog 55 x6 0) fun v1 =>
  onV (gLoad Tryd.prog 26 v1 H) fun v2 =>
  onV (oLen Tryd.prog 26 v2) fun v3 =>
  onV (oLen Tryd.prog 26 x1) fun v4 =>
  onV ((oBin Tryd.prog .add 3 v3 v4).filter closed) fun v5 =>
  onV ((oBin Tryd.prog .gtr 3 v5 (.int .i64 4096)).filter closed) fun v6 =>
  onBool (asB v6)
  (some [((.tuple #[(.slice none 0 0), (.int .i64 3)]), H)])
  (onCall 0 call (.func (.func 17) #[] #[]) [x1] H fun v7 H8 =>
  onV ((oBin Tryd.prog .neq 28 v7 (.int .i64 0)).filter closed) fun v9 =>
  onBool (asB v9)
  (some [((.tuple #[(.slice none 0 0), v7]), H8)])
  (onCall 0 call (.func (.func 18) #[] #[]) [x0] H8 fun v10 H11 =>
  onH (gStore Tryd.prog 24 (.pointer (some ⟨H11.n, 0, none⟩)) v10 (GH.push H11 (.row [(.slice none 0 0)] 24 false))) fun H12 =>
  (f6_r10 call k x0 x1 x4 x5 x6 x7 v7 (.pointer (some ⟨H11.n, 0, none⟩)) x11 x12 x13 x14 x15 x16 x17 x18 v1 v2 v3 x1 v4 v5 v6 x1 v7 v7 v9 undef x0 v10 H12)))
theorem f6_r4_eq (call : Handle) (k : Nat) : g6 call k [1,1,1,0,0] (FG 47 d [(46, undef), (45, undef), (44, undef), (43, undef), (42, undef), (41, undef), (40, undef), (37, undef), (36, undef), (30, undef), (10, undef), (3, undef), (2, undef)]) H (hSeq (g6 call k [1,1,1,0,1]) (hSeq (g6 call k [1,1,1,1]) (hFin Tryd.prog Tryd.f6))) = f6_r4 call k (d 0) (d 1) (d 4) (d 5) (d 6) (d 7) (d 11) (d 12) (d 13) (d 14) (d 15) (d 16) (d 17) (d 18) H := by
  unfold f6_r4
  rw [n6_14]
  rw [s6_4]
  refine onV_c fun v1 => ?_
  refine onV_c fun v2 => ?_
  refine onV_c fun v3 => ?_
  refine onV_c fun v4 => ?_
  refine onV_c fun v5 => ?_
  refine onV_c fun v6 => ?_
  rw [hSeq_n]
  rw [n6_15]
  refine onBool_cc (by kernel_rfl) ?_ ?_
  · rw [n6_16]
    rw [n6_17]
    rw [s6_5]
    rw [hSeq_n]
    rw [n6_18]
    rw [hSeq_r]
    kernel_rfl
  · rw [n6_19]
    rw [hSeq_n]
    rw [n6_20]
    rw [n6_21]
    rw [n6_22]
    rw [s6_6]
    refine onCall_c fun v7 H8 => ?_
    rw [hSeq_n]
    rw [n6_23]
    rw [n6_24]
    rw [s6_7]
    refine onV_c fun v9 => ?_
    rw [hSeq_n]
    rw [n6_25]
    refine onBool_cc (by kernel_rfl) ?_ ?_
    · rw [n6_26]
      rw [n6_27]
      rw [s6_8]
      rw [hSeq_n]
      rw [n6_28]
      rw [hSeq_r]
      kernel_rfl
    · rw [n6_29]
      rw [hSeq_n]
      rw [n6_30]
      rw [n6_31]
      rw [s6_9]
      refine onCall_c fun v10 H11 => ?_
      refine onH_c fun H12 => ?_
      rw [hSeq_n]
      rw [n6_32]
      rw [n6_33]
      generalize e : (FG 47 d [(9, (.pointer (some ⟨H11.n, 0, none⟩))), (32, v10), (31, (d 0)), (29, v9), (28, v7), (8, v7), (27, v7), (26, (d 1)), (25, v6), (24, v5), (23, v4), (22, (d 1)), (21, v3), (20, v2), (19, v1), (46, undef), (45, undef), (44, undef), (43, undef), (42, undef), (41, undef), (40, undef), (37, undef), (36, undef), (30, undef), (10, undef), (3, undef), (2, undef)]) = a
      rw [show a = (FG 47 (gf a) [(46, undef), (45, undef), (44, undef), (43, undef), (42, undef), (41, undef), (40, undef), (37, undef), (36, undef), (10, undef), (3, undef), (2, undef)]) from (FG_eq (by subst e; exact FG_len) (FS_cons (by subst e; kernel_rfl) (FS_cons (by subst e; kernel_rfl) (FS_cons (by subst e; kernel_rfl) (FS_cons (by subst e; kernel_rfl) (FS_cons (by subst e; kernel_rfl) (FS_cons (by subst e; kernel_rfl) (FS_cons (by subst e; kernel_rfl) (FS_cons (by subst e; kernel_rfl) (FS_cons (by subst e; kernel_rfl) (FS_cons (by subst e; kernel_rfl) (FS_cons (by subst e; kernel_rfl) (FS_cons (by subst e; kernel_rfl) (FS_nil)))))))))))))).symm]
      exact (f6_r10_eq (d := gf a) call k).trans (by subst e; kernel_rfl)
noncomputable def f6_R13 (call : Handle) (k : Nat) (L : Nat) (x9 x40 : Value) (H : GH) : M (Value × GH) :=
  onReady L H fun H1 =>
  onV (gLoad Tryd.prog 24 x9 H1) fun v2 =>
  onCall 2 call (.func (.func 20) #[] #[]) [x40] H1 fun v3 H4 =>
  onVH (gAppend Tryd.prog 24 24 v2 v3 H4) fun v5 H6 =>
  onH (gStore Tryd.prog 24 x9 v5 H6) fun H7 =>
  hRound L .normal [] H7
theorem f6_R13_eq (call : Handle) (k : Nat) (L : Nat) : g6 call k [1,1,1,1,1,1,1,0,1,0,0] (FF 47 d) H (hBegin Tryd.prog call k L (fAt Tryd.f6 [1,1,1,1,1,1,1,0,1,0,1])) = f6_R13 call k L (d 9) (d 40) H := by
  unfold f6_R13
  rw [n6_43]
  rw [s6_13]
  rw [hBegin_n]
  refine onReady_c fun H1 => ?_
  show g6 call k [1,1,1,1,1,1,1,0,1,0,1] (FG 47 d [(10, (d 40))]) H1 (hRound L) = _
  rw [n6_44]
  rw [n6_45]
  rw [s6_14]
  refine onV_c fun v2 => ?_
  refine onCall_c fun v3 H4 => ?_
  refine onVH_c fun v5 H6 => ?_
  refine onH_c fun H7 => ?_
  rw [hBlock_n]
  exact hRound_x
noncomputable def f6_sh (call : Handle) (k : Nat) (p0 p1 : Value) (H : GH) : M (Value × GH) :=
  onCall 0 call (.func (.func 16) #[] #[]) [p0] H fun v1 H2 =>
  onV (oExtract v1 0) fun v3 =>
  onV (oExtract v1 1) fun v4 =>
  onH (gStore Tryd.prog 55 (.pointer (some ⟨H2.n, 0, none⟩)) v3 (GH.push H2 (.row [(.slice none 0 0), (.bool false), (.bool false), (.int .i64 0)] 55 false))) fun H5 =>
  onV ((oBin Tryd.prog .neq 28 v4 (.int .i64 0)).filter closed) fun v6 =>
  onBool (asB v6)
  (some [((.tuple #[(.slice none 0 0), v4]), H5)])
  ((f6_r4 call k p0 p1 (.slice none 0 0) (.int .i64 0) (.pointer (some ⟨H2.n, 0, none⟩)) v4 v1 p0 v1 v3 v4 v4 v6 undef H5))
theorem f6_run (call : Handle) (k : Nat) (p0 p1 : Value) (H : GH) : g6 call k [] (FG 47 (fun _ => undef) [(1, p1), (0, p0)]) H (hFin Tryd.prog Tryd.f6) = f6_sh call k p0 p1 H := by
  unfold f6_sh
  rw [n6_0]
  rw [n6_1]
  rw [s6_0]
  rw [hSeq_n]
  rw [n6_2]
  rw [n6_3]
  rw [s6_1]
  refine onCall_c fun v1 H2 => ?_
  refine onV_c fun v3 => ?_
  refine onV_c fun v4 => ?_
  refine onH_c fun H5 => ?_
  rw [hSeq_n]
  rw [n6_4]
  rw [n6_5]
  rw [n6_6]
  rw [s6_2]
  refine onV_c fun v6 => ?_
  rw [hSeq_n]
  rw [n6_7]
  refine onBool_cc (by kernel_rfl) ?_ ?_
  · rw [n6_8]
    rw [n6_9]
    rw [s6_3]
    rw [hSeq_n]
    rw [n6_10]
    rw [hSeq_r]
    kernel_rfl
  · rw [n6_11]
    rw [hSeq_n]
    rw [n6_12]
    rw [n6_13]
    generalize e : (FG 47 (fun _ => undef) [(17, v6), (16, v4), (7, v4), (6, (.pointer (some ⟨H2.n, 0, none⟩))), (15, v4), (14, v3), (11, v1), (13, v1), (12, p0), (5, (.int .i64 0)), (4, (.slice none 0 0)), (1, p1), (0, p0)]) = a
    rw [show a = (FG 47 (gf a) [(46, undef), (45, undef), (44, undef), (43, undef), (42, undef), (41, undef), (40, undef), (37, undef), (36, undef), (30, undef), (10, undef), (3, undef), (2, undef)]) from (FG_eq (by subst e; exact FG_len) (FS_cons (by subst e; kernel_rfl) (FS_cons (by subst e; kernel_rfl) (FS_cons (by subst e; kernel_rfl) (FS_cons (by subst e; kernel_rfl) (FS_cons (by subst e; kernel_rfl) (FS_cons (by subst e; kernel_rfl) (FS_cons (by subst e; kernel_rfl) (FS_cons (by subst e; kernel_rfl) (FS_cons (by subst e; kernel_rfl) (FS_cons (by subst e; kernel_rfl) (FS_cons (by subst e; kernel_rfl) (FS_cons (by subst e; kernel_rfl) (FS_cons (by subst e; kernel_rfl) (FS_nil))))))))))))))).symm]
    exact (f6_r4_eq (d := gf a) call k).trans (by subst e; kernel_rfl)
theorem f6_eq (call : Handle) (k : Nat) (p0 p1 : Value) (H : GH) : gFunc Tryd.prog call k Tryd.f6 [p0, p1] H = f6_sh call k p0 p1 H :=
  Eq.trans (by kernel_rfl) (f6_run call k p0 p1 H)
end
noncomputable def g7 {β : Type} (call : Handle) (k : Nat) (p : List Nat) : GA → GH → Kont β → M β := gCode Tryd.prog call k (fAt Tryd.f7 p)
noncomputable def o7 {β : Type} (d : Nat) (call : Handle) (p : List Nat) (i : Nat) : GA → GH → (GA → GH → M β) → M β := gOps Tryd.prog d call (opsAt (fAt Tryd.f7 p)) i ((opsAt (fAt Tryd.f7 p)).drop i)
noncomputable def t7 {β : Type} (d : Nat) (call : Handle) (p : List Nat) (i n : Nat) : GA → GH → (GA → GH → M β) → M β := gOps Tryd.prog d call (opsAt (fAt Tryd.f7 p)) i (((opsAt (fAt Tryd.f7 p)).drop i).take n)
theorem o7_s {β : Type} {d : Nat} {call : Handle} {p : List Nat} {a : GA} {H : GH} {K : GA → GH → M β} (i n : Nat) : o7 d call p i a H K = t7 d call p i n a H fun a H => o7 d call p (i + n) a H K := gOps_split i n
section
variable {β : Type} {call : Handle} {k : Nat} {a : GA} {K : Kont β} {K' : GA → GH → M β}
variable {d : Nat → Value} {xg : Value}
variable {p0 : Value}
variable {v1 v2 v3 v4 v5 v6 : Value}
variable {H H7 : GH}
theorem n7_0 : g7 call k [] a H K = g7 call k [0] a H (hSeq (g7 call k [1]) K) := at_seq (by kernel_rfl)
theorem n7_1 : g7 call k [0] a H K = o7 0 call [0] 0 a H (K .normal) := at_region (by kernel_rfl)
theorem n7_2 : g7 call k [1] a H K = g7 call k [1,0] a H (hSeq (g7 call k [1,1]) K) := at_seq (by kernel_rfl)
theorem n7_3 : g7 call k [1,0] a H K = o7 0 call [1,0] 0 a H (K .normal) := at_region (by kernel_rfl)
theorem n7_4 : g7 call k [1,1] a H K = g7 call k [1,1,0] a H (hSeq (g7 call k [1,1,1]) K) := at_seq (by kernel_rfl)
theorem n7_5 : g7 call k [1,1,0] a H K = g7 call k [1,1,0,0] a H (hSeq (g7 call k [1,1,0,1]) K) := at_seq (by kernel_rfl)
theorem n7_6 : g7 call k [1,1,0,0] a H K = o7 0 call [1,1,0,0] 0 a H (K .normal) := at_region (by kernel_rfl)
theorem n7_7 : g7 call k [1,1,0,1] a H K = g7 call k [1,1,0,1,0] a H (hBlock 0 K) := at_block (by kernel_rfl)
theorem n7_8 : g7 call k [1,1,0,1,0] a H K = gLoop (g7 call k [1,1,0,1,0,0]) K k a H := at_loop (by kernel_rfl)
theorem n7_9 : g7 call k [1,1,0,1,0,0] a H K = g7 call k [1,1,0,1,0,0,0] a H (hSeq (g7 call k [1,1,0,1,0,0,1]) K) := at_seq (by kernel_rfl)
theorem n7_10 : g7 call k [1,1,0,1,0,0,0] a H K = g7 call k [1,1,0,1,0,0,0,0] a H (hSeq (g7 call k [1,1,0,1,0,0,0,1]) K) := at_seq (by kernel_rfl)
theorem n7_11 : g7 call k [1,1,0,1,0,0,0,0] a H K = o7 0 call [1,1,0,1,0,0,0,0] 0 a H (K .normal) := at_region (by kernel_rfl)
theorem n7_12 : g7 call k [1,1,0,1,0,0,0,1] a H K = onBool (asB (GA.eval a (.tmp 9))) (g7 call k [1,1,0,1,0,0,0,1,0] a H K) (g7 call k [1,1,0,1,0,0,0,1,1] a H K) := at_cond (by kernel_rfl)
theorem n7_13 : g7 call k [1,1,0,1,0,0,0,1,0] a H K = K .normal a H := at_skip (by kernel_rfl)
theorem n7_14 : g7 call k [1,1,0,1,0,0,1] a H K = g7 call k [1,1,0,1,0,0,1,0] a H (hSeq (g7 call k [1,1,0,1,0,0,1,1]) K) := at_seq (by kernel_rfl)
theorem n7_15 : g7 call k [1,1,0,1,0,0,1,0] a H K = g7 call k [1,1,0,1,0,0,1,0,0] a H (hBlock 1 K) := at_block (by kernel_rfl)
theorem n7_16 : g7 call k [1,1,0,1,0,0,1,0,0] a H K = g7 call k [1,1,0,1,0,0,1,0,0,0] a H (hSeq (g7 call k [1,1,0,1,0,0,1,0,0,1]) K) := at_seq (by kernel_rfl)
theorem n7_17 : g7 call k [1,1,0,1,0,0,1,0,0,0] a H K = o7 0 call [1,1,0,1,0,0,1,0,0,0] 0 a H (K .normal) := at_region (by kernel_rfl)
theorem n7_18 : g7 call k [1,1,0,1,0,0,1,0,0,1] a H K = g7 call k [1,1,0,1,0,0,1,0,0,1,0] a H (hSeq (g7 call k [1,1,0,1,0,0,1,0,0,1,1]) K) := at_seq (by kernel_rfl)
theorem n7_19 : g7 call k [1,1,0,1,0,0,1,0,0,1,0] a H K = g7 call k [1,1,0,1,0,0,1,0,0,1,0,0] a H (hSeq (g7 call k [1,1,0,1,0,0,1,0,0,1,0,1]) K) := at_seq (by kernel_rfl)
theorem n7_20 : g7 call k [1,1,0,1,0,0,1,0,0,1,0,0] a H K = o7 0 call [1,1,0,1,0,0,1,0,0,1,0,0] 0 a H (K .normal) := at_region (by kernel_rfl)
theorem n7_21 : g7 call k [1,1,0,1,0,0,1,0,0,1,0,1] a H K = onBool (asB (GA.eval a (.tmp 17))) (g7 call k [1,1,0,1,0,0,1,0,0,1,0,1,0] a H K) (g7 call k [1,1,0,1,0,0,1,0,0,1,0,1,1] a H K) := at_cond (by kernel_rfl)
theorem n7_22 : g7 call k [1,1,0,1,0,0,1,0,0,1,0,1,0] a H K = o7 0 call [1,1,0,1,0,0,1,0,0,1,0,1,0] 0 a H (K .normal) := at_region (by kernel_rfl)
theorem n7_23 : g7 call k [1,1,0,1,0,0,1,0,0,1,0,1,1] a H K = K .normal a H := at_skip (by kernel_rfl)
theorem n7_24 : g7 call k [1,1,0,1,0,0,0,1,1] a H K = K (.exit 0) a H := at_exit (by kernel_rfl)
theorem n7_25 : g7 call k [1,1,1] a H K = g7 call k [1,1,1,0] a H (hSeq (g7 call k [1,1,1,1]) K) := at_seq (by kernel_rfl)
theorem n7_26 : g7 call k [1,1,1,0] a H K = o7 0 call [1,1,1,0] 0 a H (K .normal) := at_region (by kernel_rfl)
theorem n7_27 : g7 call k [1,1,1,1] a H K = K .ret a H := at_ret (by kernel_rfl)
theorem n7_28 : g7 call k [1,1,0,1,0,0,1,0,0,1,1] a H K = o7 0 call [1,1,0,1,0,0,1,0,0,1,1] 0 a H (K .normal) := at_region (by kernel_rfl)
theorem n7_29 : g7 call k [1,1,0,1,0,0,1,1] a H K = o7 0 call [1,1,0,1,0,0,1,1] 0 a H (K .normal) := at_region (by kernel_rfl)
theorem s7_0 : o7 0 call [0] 0 (FG 29 (fun _ => undef) [(0, p0)]) H K' =
  K' (FG 29 (fun _ => undef) [(2, (.slice none 0 0)), (0, p0)]) H := by kernel_rfl
theorem s7_1 : o7 0 call [1,0] 0 (FG 29 (fun _ => undef) [(2, (.slice none 0 0)), (0, p0)]) H K' =
  K' (FG 29 (fun _ => undef) [(3, (.slice none 0 0)), (2, (.slice none 0 0)), (0, p0)]) H := by kernel_rfl
theorem s7_2 : o7 0 call [1,1,0,0] 0 (FG 29 (fun _ => undef) [(3, (.slice none 0 0)), (2, (.slice none 0 0)), (0, p0)]) H K' =
  K' (FG 29 (fun _ => undef) [(4, (.int .i64 0)), (3, (.slice none 0 0)), (2, (.slice none 0 0)), (0, p0)]) H := by kernel_rfl
theorem s7_3 : o7 0 call [1,1,0,1,0,0,0,0] 0 (FF 29 d) H K' =
  onV (oLen Tryd.prog 26 (d 0)) fun v1 =>
  onV ((oBin Tryd.prog .lss 3 (d 4) v1).filter closed) fun v2 =>
  K' (FG 29 d [(9, v2), (8, v1), (7, (d 0)), (6, (d 4))]) H := by kernel_rfl
theorem s7_4 : o7 0 call [1,1,0,1,0,0,1,0,0,0] 0 (FG 29 d [(9, v2), (8, v1), (7, (d 0)), (6, (d 4))]) H K' =
  onV ((oBin Tryd.prog .add 3 (d 4) (.int .i64 32)).filter closed) fun v3 =>
  K' (FG 29 d [(5, v3), (13, v3), (12, (d 4)), (9, v2), (8, v1), (7, (d 0)), (6, (d 4))]) H := by kernel_rfl
theorem s7_5 : o7 0 call [1,1,0,1,0,0,1,0,0,1,0,0] 0 (FG 29 d [(5, v3), (13, v3), (12, (d 4)), (9, v2), (8, v1), (7, (d 0)), (6, (d 4))]) H K' =
  onV (oLen Tryd.prog 26 (d 0)) fun v4 =>
  onV ((oBin Tryd.prog .gtr 3 v3 v4).filter closed) fun v5 =>
  K' (FG 29 d [(17, v5), (16, v4), (15, (d 0)), (14, v3), (5, v3), (13, v3), (12, (d 4)), (9, v2), (8, v1), (7, (d 0)), (6, (d 4))]) H := by kernel_rfl
theorem s7_6 : o7 0 call [1,1,0,1,0,0,1,0,0,1,0,1,0] 0 (FG 29 d [(17, v5), (16, v4), (15, (d 0)), (14, v3), (5, v3), (13, v3), (12, (d 4)), (9, v2), (8, v1), (7, (d 0)), (6, (d 4))]) H K' =
  onV (oLen Tryd.prog 26 (d 0)) fun v6 =>
  K' (FG 29 d [(5, v6), (19, v6), (18, (d 0)), (17, v5), (16, v4), (15, (d 0)), (14, v3), (5, v3), (13, v3), (12, (d 4)), (9, v2), (8, v1), (7, (d 0)), (6, (d 4))]) H := by kernel_rfl
theorem s7_7 : o7 0 call [1,1,1,0] 0 (FG 29 d [(9, v2), (8, v1), (7, (d 0)), (6, (d 4))]) H K' =
  K' (FG 29 d [(2, (d 3)), (28, (d 3)), (9, v2), (8, v1), (7, (d 0)), (6, (d 4))]) H := by kernel_rfl
theorem s7_8 : o7 0 call [1,1,0,1,0,0,1,0,0,1,1] 0 (FF 29 d) H K' =
  onV (oSlice Tryd.prog 26 (d 0) (some (d 4)) (some (d 5)) none) fun v1 =>
  onCall 0 call (.func (.func 22) #[] #[]) [v1] H fun v2 H3 =>
  onVH (gBuildSlice Tryd.prog 31 1 [(0, v2)] H3) fun v4 H5 =>
  onVH (gAppend Tryd.prog 31 31 (d 3) v4 H5) fun v6 H7 =>
  K' (FG 29 d [(3, v6), (27, v6), (26, v4), (25, v2), (24, v1), (23, (d 5)), (22, (d 4)), (21, (d 0)), (20, (d 3))]) H7 := by kernel_rfl
theorem s7_9 : o7 0 call [1,1,0,1,0,0,1,1] 0 (FG 29 d [(3, v6), (27, v6), (26, v4), (25, v2), (24, v1), (23, (d 5)), (22, (d 4)), (21, (d 0)), (20, (d 3))]) H7 K' =
  onV ((oBin Tryd.prog .add 3 (d 4) (.int .i64 32)).filter closed) fun v8 =>
  K' (FG 29 d [(4, v8), (11, v8), (10, (d 4)), (3, v6), (27, v6), (26, v4), (25, v2), (24, v1), (23, (d 5)), (22, (d 4)), (21, (d 0)), (20, (d 3))]) H7 := by kernel_rfl
def f7_l3_P (ag : AG) (sg : Sg3) : Prop := ∀ (d : Nat → Value) (H : GH), ag (FF 29 d) H = sg (d 0) (d 3) (d 4) H
theorem f7_l3_at {ag : AG} {sg : Sg3} (h : f7_l3_P ag sg) : ag (FF 29 d) H = sg (d 0) (d 3) (d 4) H := h d H
noncomputable def f7_r8 (call : Handle) (k : Nat) (sg_l3 : Sg3) (x0 x3 x4 x5 : Value) (H : GH) : M (Value × GH) :=
  onV (oSlice Tryd.prog 26 x0 (some x4) (some x5) none) fun v1 =>
  onCall 0 call (.func (.func 22) #[] #[]) [v1] H fun v2 H3 =>
  onVH (gBuildSlice Tryd.prog 31 1 [(0, v2)] H3) fun v4 H5 =>
  onVH (gAppend Tryd.prog 31 31 x3 v4 H5) fun v6 H7 =>
  onV ((oBin Tryd.prog .add 3 x4 (.int .i64 32)).filter closed) fun v8 =>
  (sg_l3 x0 v6 v8 H7)
theorem f7_r8_eq (call : Handle) (k : Nat) (ag_l3 : AG) (sg_l3 : Sg3) (h_l3 : f7_l3_P ag_l3 sg_l3) : g7 call k [1,1,0,1,0,0,1,0,0,1,1] (FF 29 d) H (hBlock 1 (hSeq (g7 call k [1,1,0,1,0,0,1,1]) (hLoop ag_l3 (hBlock 0 (hSeq (g7 call k [1,1,1]) (hFin Tryd.prog Tryd.f7)))))) = f7_r8 call k sg_l3 (d 0) (d 3) (d 4) (d 5) H := by
  unfold f7_r8
  rw [n7_28]
  rw [s7_8]
  refine onV_c fun v1 => ?_
  refine onCall_c fun v2 H3 => ?_
  refine onVH_c fun v4 H5 => ?_
  refine onVH_c fun v6 H7 => ?_
  rw [hBlock_n]
  rw [hSeq_n]
  rw [n7_29]
  rw [s7_9]
  refine onV_c fun v8 => ?_
  rw [hLoop_n]
  generalize e : (FG 29 d [(4, v8), (11, v8), (10, (d 4)), (3, v6), (27, v6), (26, v4), (25, v2), (24, v1), (23, (d 5)), (22, (d 4)), (21, (d 0)), (20, (d 3))]) = a
  rw [show a = (FF 29 (gf a)) from (FF_gf (by subst e; exact FG_len)).symm]
  exact (f7_l3_at (d := gf a) h_l3).trans (by subst e; kernel_rfl)
noncomputable def f7_l3b (call : Handle) (k : Nat) (sg_l3 : Sg3) (x0 x3 x4 : Value) (H : GH) : M (Value × GH) :=
  onV (oLen Tryd.prog 26 x0) fun v1 =>
  onV ((oBin Tryd.prog .lss 3 x4 v1).filter closed) fun v2 =>
  onBool (asB v2)
  (onV ((oBin Tryd.prog .add 3 x4 (.int .i64 32)).filter closed) fun v3 =>
  onV (oLen Tryd.prog 26 x0) fun v4 =>
  onV ((oBin Tryd.prog .gtr 3 v3 v4).filter closed) fun v5 =>
  onBool (asB v5)
  (onV (oLen Tryd.prog 26 x0) fun v6 =>
  (f7_r8 call k (sg_l3) x0 x3 x4 v6 H))
  ((f7_r8 call k (sg_l3) x0 x3 x4 v3 H)))
  (some [(x3, H)])
theorem f7_l3b_eq (call : Handle) (k : Nat) (ag_l3 : AG) (sg_l3 : Sg3) (h_l3 : f7_l3_P ag_l3 sg_l3) : g7 call k [1,1,0,1,0,0] (FF 29 d) H (hLoop ag_l3 (hBlock 0 (hSeq (g7 call k [1,1,1]) (hFin Tryd.prog Tryd.f7)))) = f7_l3b call k sg_l3 (d 0) (d 3) (d 4) H := by
  unfold f7_l3b
  rw [n7_9]
  rw [n7_10]
  rw [n7_11]
  rw [s7_3]
  refine onV_c fun v1 => ?_
  refine onV_c fun v2 => ?_
  rw [hSeq_n]
  rw [n7_12]
  refine onBool_cc (by kernel_rfl) ?_ ?_
  · rw [n7_13]
    rw [hSeq_n]
    rw [n7_14]
    rw [n7_15]
    rw [n7_16]
    rw [n7_17]
    rw [s7_4]
    refine onV_c fun v3 => ?_
    rw [hSeq_n]
    rw [n7_18]
    rw [n7_19]
    rw [n7_20]
    rw [s7_5]
    refine onV_c fun v4 => ?_
    refine onV_c fun v5 => ?_
    rw [hSeq_n]
    rw [n7_21]
    refine onBool_cc (by kernel_rfl) ?_ ?_
    · rw [n7_22]
      rw [s7_6]
      refine onV_c fun v6 => ?_
      rw [hSeq_n]
      generalize e : (FG 29 d [(5, v6), (19, v6), (18, (d 0)), (17, v5), (16, v4), (15, (d 0)), (14, v3), (5, v3), (13, v3), (12, (d 4)), (9, v2), (8, v1), (7, (d 0)), (6, (d 4))]) = a
      rw [show a = (FF 29 (gf a)) from (FF_gf (by subst e; exact FG_len)).symm]
      exact (f7_r8_eq (d := gf a) call k ag_l3 sg_l3 h_l3).trans (by subst e; kernel_rfl)
    · rw [n7_23]
      rw [hSeq_n]
      generalize e : (FG 29 d [(17, v5), (16, v4), (15, (d 0)), (14, v3), (5, v3), (13, v3), (12, (d 4)), (9, v2), (8, v1), (7, (d 0)), (6, (d 4))]) = a
      rw [show a = (FF 29 (gf a)) from (FF_gf (by subst e; exact FG_len)).symm]
      exact (f7_r8_eq (d := gf a) call k ag_l3 sg_l3 h_l3).trans (by subst e; kernel_rfl)
  · rw [n7_24]
    rw [hSeq_e, hLoop_e, hBlock_hit]
    rw [hSeq_n]
    rw [n7_25]
    rw [n7_26]
    rw [s7_7]
    rw [hSeq_n]
    rw [n7_27]
    kernel_rfl
noncomputable def f7_l3 (call : Handle) (k : Nat) : Nat → Value → Value → Value → GH → M (Value × GH)
  | 0, _, _, _, _ => none
  | r + 1, x0, x3, x4, H => f7_l3b call k (f7_l3 call k r) x0 x3 x4 H
theorem f7_l3_eq (call : Handle) (k : Nat) : ∀ (r : Nat), f7_l3_P (gLoop (g7 call k [1,1,0,1,0,0]) (hBlock 0 (hSeq (g7 call k [1,1,1]) (hFin Tryd.prog Tryd.f7))) r) (f7_l3 call k r) := by
  intro r
  induction r with
  | zero => unfold f7_l3_P; intros; rfl
  | succ r ih => unfold f7_l3_P; intros; exact f7_l3b_eq call k _ _ ih
noncomputable def f7_sh (call : Handle) (k : Nat) (p0 : Value) (H : GH) : M (Value × GH) :=
  (f7_l3 call k k p0 (.slice none 0 0) (.int .i64 0) H)
theorem f7_run (call : Handle) (k : Nat) (p0 : Value) (H : GH) : g7 call k [] (FG 29 (fun _ => undef) [(0, p0)]) H (hFin Tryd.prog Tryd.f7) = f7_sh call k p0 H := by
  unfold f7_sh
  rw [n7_0]
  rw [n7_1]
  rw [s7_0]
  rw [hSeq_n]
  rw [n7_2]
  rw [n7_3]
  rw [s7_1]
  rw [hSeq_n]
  rw [n7_4]
  rw [n7_5]
  rw [n7_6]
  rw [s7_2]
  rw [hSeq_n]
  rw [n7_7]
  rw [n7_8]
  generalize e : (FG 29 (fun _ => undef) [(4, (.int .i64 0)), (3, (.slice none 0 0)), (2, (.slice none 0 0)), (0, p0)]) = a
  rw [show a = (FF 29 (gf a)) from (FF_gf (by subst e; exact FG_len)).symm]
  exact (f7_l3_at (d := gf a) (f7_l3_eq call k k)).trans (by subst e; kernel_rfl)
theorem f7_eq (call : Handle) (k : Nat) (p0 : Value) (H : GH) : gFunc Tryd.prog call k Tryd.f7 [p0] H = f7_sh call k p0 H :=
  Eq.trans (by kernel_rfl) (f7_run call k p0 H)
end
noncomputable def g8 {β : Type} (call : Handle) (k : Nat) (p : List Nat) : GA → GH → Kont β → M β := gCode Tryd.prog call k (fAt Tryd.f8 p)
noncomputable def o8 {β : Type} (d : Nat) (call : Handle) (p : List Nat) (i : Nat) : GA → GH → (GA → GH → M β) → M β := gOps Tryd.prog d call (opsAt (fAt Tryd.f8 p)) i ((opsAt (fAt Tryd.f8 p)).drop i)
noncomputable def t8 {β : Type} (d : Nat) (call : Handle) (p : List Nat) (i n : Nat) : GA → GH → (GA → GH → M β) → M β := gOps Tryd.prog d call (opsAt (fAt Tryd.f8 p)) i (((opsAt (fAt Tryd.f8 p)).drop i).take n)
theorem o8_s {β : Type} {d : Nat} {call : Handle} {p : List Nat} {a : GA} {H : GH} {K : GA → GH → M β} (i n : Nat) : o8 d call p i a H K = t8 d call p i n a H fun a H => o8 d call p (i + n) a H K := gOps_split i n
section
variable {β : Type} {call : Handle} {k : Nat} {a : GA} {K : Kont β} {K' : GA → GH → M β}
variable {d : Nat → Value} {xg : Value}
variable {p0 : Value}
variable {v1 : Value}
variable {H H2 H3 : GH}
theorem n8_0 : g8 call k [] a H K = g8 call k [0] a H (hSeq (g8 call k [1]) K) := at_seq (by kernel_rfl)
theorem n8_1 : g8 call k [0] a H K = o8 0 call [0] 0 a H (K .normal) := at_region (by kernel_rfl)
theorem n8_2 : g8 call k [1] a H K = g8 call k [1,0] a H (hSeq (g8 call k [1,1]) K) := at_seq (by kernel_rfl)
theorem n8_3 : g8 call k [1,0] a H K = o8 0 call [1,0] 0 a H (K .normal) := at_region (by kernel_rfl)
theorem n8_4 : g8 call k [1,1] a H K = g8 call k [1,1,0] a H (hSeq (g8 call k [1,1,1]) K) := at_seq (by kernel_rfl)
theorem n8_5 : g8 call k [1,1,0] a H K = o8 2 call [1,1,0] 0 a H (K .normal) := at_region (by kernel_rfl)
theorem n8_6 : g8 call k [1,1,1] a H K = K .ret a H := at_ret (by kernel_rfl)
theorem s8_0 : o8 0 call [0] 0 (FG 12 (fun _ => undef) [(0, p0)]) H K' =
  K' (FG 12 (fun _ => undef) [(3, (.bool false)), (2, (.slice none 0 0)), (0, p0)]) H := by kernel_rfl
theorem s8_1 : o8 0 call [1,0] 0 (FG 12 (fun _ => undef) [(3, (.bool false)), (2, (.slice none 0 0)), (0, p0)]) H K' =
  onCall 0 call (.func (.func 23) #[] #[]) [p0] H fun v1 H2 =>
  onH (gStore Tryd.prog 55 (.pointer (some ⟨H2.n, 0, none⟩)) v1 (GH.push H2 (.row [(.slice none 0 0), (.bool false), (.bool false), (.int .i64 0)] 55 false))) fun H3 =>
  K' (FG 12 (fun _ => undef) [(4, (.pointer (some ⟨H2.n, 0, none⟩))), (6, v1), (5, p0), (3, (.bool false)), (2, (.slice none 0 0)), (0, p0)]) H3 := by kernel_rfl
theorem s8_2 : o8 2 call [1,1,0] 0 (FG 12 (fun _ => undef) [(4, (.pointer (some ⟨H2.n, 0, none⟩))), (6, v1), (5, p0), (3, (.bool false)), (2, (.slice none 0 0)), (0, p0)]) H3 K' =
  onV (gLoad Tryd.prog 26 (.pointer (some ⟨H2.n, 0, none⟩)) H3) fun v4 =>
  onCall 2 call (.func (.func 24) #[] #[]) [v4] H3 fun v5 H6 =>
  onV (gLoad Tryd.prog 4 (.pointer (some ⟨H2.n, 2, none⟩)) H6) fun v7 =>
  K' (FG 12 (fun _ => undef) [(3, v7), (2, v5), (11, v7), (10, (.pointer (some ⟨H2.n, 2, none⟩))), (9, v5), (8, v4), (7, (.pointer (some ⟨H2.n, 0, none⟩))), (4, (.pointer (some ⟨H2.n, 0, none⟩))), (6, v1), (5, p0), (3, (.bool false)), (2, (.slice none 0 0)), (0, p0)]) H6 := by kernel_rfl
noncomputable def f8_sh (call : Handle) (k : Nat) (p0 : Value) (H : GH) : M (Value × GH) :=
  onCall 0 call (.func (.func 23) #[] #[]) [p0] H fun v1 H2 =>
  onH (gStore Tryd.prog 55 (.pointer (some ⟨H2.n, 0, none⟩)) v1 (GH.push H2 (.row [(.slice none 0 0), (.bool false), (.bool false), (.int .i64 0)] 55 false))) fun H3 =>
  onV (gLoad Tryd.prog 26 (.pointer (some ⟨H2.n, 0, none⟩)) H3) fun v4 =>
  onCall 2 call (.func (.func 24) #[] #[]) [v4] H3 fun v5 H6 =>
  onV (gLoad Tryd.prog 4 (.pointer (some ⟨H2.n, 2, none⟩)) H6) fun v7 =>
  some [((.tuple #[v5, v7]), H6)]
theorem f8_run (call : Handle) (k : Nat) (p0 : Value) (H : GH) : g8 call k [] (FG 12 (fun _ => undef) [(0, p0)]) H (hFin Tryd.prog Tryd.f8) = f8_sh call k p0 H := by
  unfold f8_sh
  rw [n8_0]
  rw [n8_1]
  rw [s8_0]
  rw [hSeq_n]
  rw [n8_2]
  rw [n8_3]
  rw [s8_1]
  refine onCall_c fun v1 H2 => ?_
  refine onH_c fun H3 => ?_
  rw [hSeq_n]
  rw [n8_4]
  rw [n8_5]
  rw [s8_2]
  refine onV_c fun v4 => ?_
  refine onCall_c fun v5 H6 => ?_
  refine onV_c fun v7 => ?_
  rw [hSeq_n]
  rw [n8_6]
  kernel_rfl
theorem f8_eq (call : Handle) (k : Nat) (p0 : Value) (H : GH) : gFunc Tryd.prog call k Tryd.f8 [p0] H = f8_sh call k p0 H :=
  Eq.trans (by kernel_rfl) (f8_run call k p0 H)
end
noncomputable def g9 {β : Type} (call : Handle) (k : Nat) (p : List Nat) : GA → GH → Kont β → M β := gCode Tryd.prog call k (fAt Tryd.f9 p)
noncomputable def o9 {β : Type} (d : Nat) (call : Handle) (p : List Nat) (i : Nat) : GA → GH → (GA → GH → M β) → M β := gOps Tryd.prog d call (opsAt (fAt Tryd.f9 p)) i ((opsAt (fAt Tryd.f9 p)).drop i)
noncomputable def t9 {β : Type} (d : Nat) (call : Handle) (p : List Nat) (i n : Nat) : GA → GH → (GA → GH → M β) → M β := gOps Tryd.prog d call (opsAt (fAt Tryd.f9 p)) i (((opsAt (fAt Tryd.f9 p)).drop i).take n)
theorem o9_s {β : Type} {d : Nat} {call : Handle} {p : List Nat} {a : GA} {H : GH} {K : GA → GH → M β} (i n : Nat) : o9 d call p i a H K = t9 d call p i n a H fun a H => o9 d call p (i + n) a H K := gOps_split i n
section
variable {β : Type} {call : Handle} {k : Nat} {a : GA} {K : Kont β} {K' : GA → GH → M β}
variable {d : Nat → Value} {xg : Value}
variable {p0 : Value}
variable {v1 v4 v5 v7 v8 : Value}
variable {H H2 H3 : GH}
theorem n9_0 : g9 call k [] a H K = g9 call k [0] a H (hSeq (g9 call k [1]) K) := at_seq (by kernel_rfl)
theorem n9_1 : g9 call k [0] a H K = o9 0 call [0] 0 a H (K .normal) := at_region (by kernel_rfl)
theorem n9_2 : g9 call k [1] a H K = g9 call k [1,0] a H (hSeq (g9 call k [1,1]) K) := at_seq (by kernel_rfl)
theorem n9_3 : g9 call k [1,0] a H K = o9 0 call [1,0] 0 a H (K .normal) := at_region (by kernel_rfl)
theorem n9_4 : g9 call k [1,1] a H K = g9 call k [1,1,0] a H (hSeq (g9 call k [1,1,1]) K) := at_seq (by kernel_rfl)
theorem n9_5 : g9 call k [1,1,0] a H K = g9 call k [1,1,0,0] a H (hBlock 0 K) := at_block (by kernel_rfl)
theorem n9_6 : g9 call k [1,1,0,0] a H K = g9 call k [1,1,0,0,0] a H (hSeq (g9 call k [1,1,0,0,1]) K) := at_seq (by kernel_rfl)
theorem n9_7 : g9 call k [1,1,0,0,0] a H K = o9 0 call [1,1,0,0,0] 0 a H (K .normal) := at_region (by kernel_rfl)
theorem n9_8 : g9 call k [1,1,0,0,1] a H K = onBool (asB (GA.eval a (.tmp 7))) (g9 call k [1,1,0,0,1,0] a H K) (g9 call k [1,1,0,0,1,1] a H K) := at_cond (by kernel_rfl)
theorem n9_9 : g9 call k [1,1,0,0,1,0] a H K = g9 call k [1,1,0,0,1,0,0] a H (hSeq (g9 call k [1,1,0,0,1,0,1]) K) := at_seq (by kernel_rfl)
theorem n9_10 : g9 call k [1,1,0,0,1,0,0] a H K = o9 1 call [1,1,0,0,1,0,0] 0 a H (K .normal) := at_region (by kernel_rfl)
theorem n9_11 : g9 call k [1,1,0,0,1,0,1] a H K = K .ret a H := at_ret (by kernel_rfl)
theorem n9_12 : g9 call k [1,1,0,0,1,1] a H K = g9 call k [1,1,0,0,1,1,0] a H (hSeq (g9 call k [1,1,0,0,1,1,1]) K) := at_seq (by kernel_rfl)
theorem n9_13 : g9 call k [1,1,0,0,1,1,0] a H K = o9 0 call [1,1,0,0,1,1,0] 0 a H (K .normal) := at_region (by kernel_rfl)
theorem n9_14 : g9 call k [1,1,0,0,1,1,1] a H K = onBool (asB (GA.eval a (.tmp 13))) (g9 call k [1,1,0,0,1,1,1,0] a H K) (g9 call k [1,1,0,0,1,1,1,1] a H K) := at_cond (by kernel_rfl)
theorem n9_15 : g9 call k [1,1,0,0,1,1,1,0] a H K = g9 call k [1,1,0,0,1,1,1,0,0] a H (hSeq (g9 call k [1,1,0,0,1,1,1,0,1]) K) := at_seq (by kernel_rfl)
theorem n9_16 : g9 call k [1,1,0,0,1,1,1,0,0] a H K = o9 0 call [1,1,0,0,1,1,1,0,0] 0 a H (K .normal) := at_region (by kernel_rfl)
theorem n9_17 : g9 call k [1,1,0,0,1,1,1,0,1] a H K = K .ret a H := at_ret (by kernel_rfl)
theorem n9_18 : g9 call k [1,1,0,0,1,1,1,1] a H K = K .normal a H := at_skip (by kernel_rfl)
theorem n9_19 : g9 call k [1,1,1] a H K = g9 call k [1,1,1,0] a H (hSeq (g9 call k [1,1,1,1]) K) := at_seq (by kernel_rfl)
theorem n9_20 : g9 call k [1,1,1,0] a H K = o9 0 call [1,1,1,0] 0 a H (K .normal) := at_region (by kernel_rfl)
theorem n9_21 : g9 call k [1,1,1,1] a H K = K .ret a H := at_ret (by kernel_rfl)
theorem s9_0 : o9 0 call [0] 0 (FG 20 (fun _ => undef) [(0, p0)]) H K' =
  K' (FG 20 (fun _ => undef) [(3, (.int .i64 0)), (2, (.slice none 0 0)), (0, p0)]) H := by kernel_rfl
theorem s9_1 : o9 0 call [1,0] 0 (FG 20 (fun _ => undef) [(3, (.int .i64 0)), (2, (.slice none 0 0)), (0, p0)]) H K' =
  onCall 0 call (.func (.func 23) #[] #[]) [p0] H fun v1 H2 =>
  onH (gStore Tryd.prog 55 (.pointer (some ⟨H2.n, 0, none⟩)) v1 (GH.push H2 (.row [(.slice none 0 0), (.bool false), (.bool false), (.int .i64 0)] 55 false))) fun H3 =>
  K' (FG 20 (fun _ => undef) [(4, (.pointer (some ⟨H2.n, 0, none⟩))), (6, v1), (5, p0), (3, (.int .i64 0)), (2, (.slice none 0 0)), (0, p0)]) H3 := by kernel_rfl
theorem s9_2 : o9 0 call [1,1,0,0,0] 0 (FG 20 (fun _ => undef) [(4, (.pointer (some ⟨H2.n, 0, none⟩))), (6, v1), (5, p0), (3, (.int .i64 0)), (2, (.slice none 0 0)), (0, p0)]) H3 K' =
  onV (gLoad Tryd.prog 28 (.pointer (some ⟨H2.n, 3, none⟩)) H3) fun v4 =>
  onV ((oBin Tryd.prog .neq 28 v4 (.int .i64 0)).filter closed) fun v5 =>
  K' (FG 20 (fun _ => undef) [(7, v5), (10, v5), (9, v4), (8, (.pointer (some ⟨H2.n, 3, none⟩))), (4, (.pointer (some ⟨H2.n, 0, none⟩))), (6, v1), (5, p0), (3, (.int .i64 0)), (2, (.slice none 0 0)), (0, p0)]) H3 := by kernel_rfl
theorem s9_3 : o9 1 call [1,1,0,0,1,0,0] 0 (FG 20 (fun _ => undef) [(7, v5), (10, v5), (9, v4), (8, (.pointer (some ⟨H2.n, 3, none⟩))), (4, (.pointer (some ⟨H2.n, 0, none⟩))), (6, v1), (5, p0), (3, (.int .i64 0)), (2, (.slice none 0 0)), (0, p0)]) H3 K' =
  onV (gLoad Tryd.prog 28 (.pointer (some ⟨H2.n, 3, none⟩)) H3) fun v6 =>
  K' (FG 20 (fun _ => undef) [(3, v6), (2, (.slice none 0 0)), (12, v6), (11, (.pointer (some ⟨H2.n, 3, none⟩))), (7, v5), (10, v5), (9, v4), (8, (.pointer (some ⟨H2.n, 3, none⟩))), (4, (.pointer (some ⟨H2.n, 0, none⟩))), (6, v1), (5, p0), (3, (.int .i64 0)), (2, (.slice none 0 0)), (0, p0)]) H3 := by kernel_rfl
theorem s9_4 : o9 0 call [1,1,0,0,1,1,0] 0 (FG 20 (fun _ => undef) [(7, v5), (10, v5), (9, v4), (8, (.pointer (some ⟨H2.n, 3, none⟩))), (4, (.pointer (some ⟨H2.n, 0, none⟩))), (6, v1), (5, p0), (3, (.int .i64 0)), (2, (.slice none 0 0)), (0, p0)]) H3 K' =
  onV (gLoad Tryd.prog 4 (.pointer (some ⟨H2.n, 2, none⟩)) H3) fun v7 =>
  onV ((oUn Tryd.prog .not v7).filter closed) fun v8 =>
  K' (FG 20 (fun _ => undef) [(13, v8), (16, v8), (15, v7), (14, (.pointer (some ⟨H2.n, 2, none⟩))), (7, v5), (10, v5), (9, v4), (8, (.pointer (some ⟨H2.n, 3, none⟩))), (4, (.pointer (some ⟨H2.n, 0, none⟩))), (6, v1), (5, p0), (3, (.int .i64 0)), (2, (.slice none 0 0)), (0, p0)]) H3 := by kernel_rfl
theorem s9_5 : o9 0 call [1,1,0,0,1,1,1,0,0] 0 (FG 20 (fun _ => undef) [(13, v8), (16, v8), (15, v7), (14, (.pointer (some ⟨H2.n, 2, none⟩))), (7, v5), (10, v5), (9, v4), (8, (.pointer (some ⟨H2.n, 3, none⟩))), (4, (.pointer (some ⟨H2.n, 0, none⟩))), (6, v1), (5, p0), (3, (.int .i64 0)), (2, (.slice none 0 0)), (0, p0)]) H3 K' =
  K' (FG 20 (fun _ => undef) [(3, (.int .i64 4)), (2, (.slice none 0 0)), (13, v8), (16, v8), (15, v7), (14, (.pointer (some ⟨H2.n, 2, none⟩))), (7, v5), (10, v5), (9, v4), (8, (.pointer (some ⟨H2.n, 3, none⟩))), (4, (.pointer (some ⟨H2.n, 0, none⟩))), (6, v1), (5, p0), (3, (.int .i64 0)), (2, (.slice none 0 0)), (0, p0)]) H3 := by kernel_rfl
theorem s9_6 : o9 0 call [1,1,1,0] 0 (FF 20 d) H K' =
  onV (oFieldAddr Tryd.prog 55 (d 4) 0) fun v1 =>
  onV (gLoad Tryd.prog 26 v1 H) fun v2 =>
  onCall 0 call (.func (.func 24) #[] #[]) [v2] H fun v3 H4 =>
  K' (FG 20 d [(3, (.int .i64 0)), (2, v3), (19, v3), (18, v2), (17, v1)]) H4 := by kernel_rfl
noncomputable def f9_r6 (call : Handle) (k : Nat) (x4 : Value) (H : GH) : M (Value × GH) :=
  onV (oFieldAddr Tryd.prog 55 x4 0) fun v1 =>
  onV (gLoad Tryd.prog 26 v1 H) fun v2 =>
  onCall 0 call (.func (.func 24) #[] #[]) [v2] H fun v3 H4 =>
  some [((.tuple #[v3, (.int .i64 0)]), H4)]
theorem f9_r6_eq (call : Handle) (k : Nat) : g9 call k [1,1,1,0] (FF 20 d) H (hSeq (g9 call k [1,1,1,1]) (hFin Tryd.prog Tryd.f9)) = f9_r6 call k (d 4) H := by
  unfold f9_r6
  rw [n9_20]
  rw [s9_6]
  refine onV_c fun v1 => ?_
  refine onV_c fun v2 => ?_
  refine onCall_c fun v3 H4 => ?_
  rw [hSeq_n]
  rw [n9_21]
  kernel_rfl
noncomputable def f9_sh (call : Handle) (k : Nat) (p0 : Value) (H : GH) : M (Value × GH) :=
  onCall 0 call (.func (.func 23) #[] #[]) [p0] H fun v1 H2 =>
  onH (gStore Tryd.prog 55 (.pointer (some ⟨H2.n, 0, none⟩)) v1 (GH.push H2 (.row [(.slice none 0 0), (.bool false), (.bool false), (.int .i64 0)] 55 false))) fun H3 =>
  onV (gLoad Tryd.prog 28 (.pointer (some ⟨H2.n, 3, none⟩)) H3) fun v4 =>
  onV ((oBin Tryd.prog .neq 28 v4 (.int .i64 0)).filter closed) fun v5 =>
  onBool (asB v5)
  (onV (gLoad Tryd.prog 28 (.pointer (some ⟨H2.n, 3, none⟩)) H3) fun v6 =>
  some [((.tuple #[(.slice none 0 0), v6]), H3)])
  (onV (gLoad Tryd.prog 4 (.pointer (some ⟨H2.n, 2, none⟩)) H3) fun v7 =>
  onV ((oUn Tryd.prog .not v7).filter closed) fun v8 =>
  onBool (asB v8)
  (some [((.tuple #[(.slice none 0 0), (.int .i64 4)]), H3)])
  ((f9_r6 call k (.pointer (some ⟨H2.n, 0, none⟩)) H3)))
theorem f9_run (call : Handle) (k : Nat) (p0 : Value) (H : GH) : g9 call k [] (FG 20 (fun _ => undef) [(0, p0)]) H (hFin Tryd.prog Tryd.f9) = f9_sh call k p0 H := by
  unfold f9_sh
  rw [n9_0]
  rw [n9_1]
  rw [s9_0]
  rw [hSeq_n]
  rw [n9_2]
  rw [n9_3]
  rw [s9_1]
  refine onCall_c fun v1 H2 => ?_
  refine onH_c fun H3 => ?_
  rw [hSeq_n]
  rw [n9_4]
  rw [n9_5]
  rw [n9_6]
  rw [n9_7]
  rw [s9_2]
  refine onV_c fun v4 => ?_
  refine onV_c fun v5 => ?_
  rw [hSeq_n]
  rw [n9_8]
  refine onBool_cc (by kernel_rfl) ?_ ?_
  · rw [n9_9]
    rw [n9_10]
    rw [s9_3]
    refine onV_c fun v6 => ?_
    rw [hSeq_n]
    rw [n9_11]
    rw [hBlock_r, hSeq_r]
    kernel_rfl
  · rw [n9_12]
    rw [n9_13]
    rw [s9_4]
    refine onV_c fun v7 => ?_
    refine onV_c fun v8 => ?_
    rw [hSeq_n]
    rw [n9_14]
    refine onBool_cc (by kernel_rfl) ?_ ?_
    · rw [n9_15]
      rw [n9_16]
      rw [s9_5]
      rw [hSeq_n]
      rw [n9_17]
      rw [hBlock_r, hSeq_r]
      kernel_rfl
    · rw [n9_18]
      rw [hBlock_n]
      rw [hSeq_n]
      rw [n9_19]
      generalize e : (FG 20 (fun _ => undef) [(13, v8), (16, v8), (15, v7), (14, (.pointer (some ⟨H2.n, 2, none⟩))), (7, v5), (10, v5), (9, v4), (8, (.pointer (some ⟨H2.n, 3, none⟩))), (4, (.pointer (some ⟨H2.n, 0, none⟩))), (6, v1), (5, p0), (3, (.int .i64 0)), (2, (.slice none 0 0)), (0, p0)]) = a
      rw [show a = (FF 20 (gf a)) from (FF_gf (by subst e; exact FG_len)).symm]
      exact (f9_r6_eq (d := gf a) call k).trans (by subst e; kernel_rfl)
theorem f9_eq (call : Handle) (k : Nat) (p0 : Value) (H : GH) : gFunc Tryd.prog call k Tryd.f9 [p0] H = f9_sh call k p0 H :=
  Eq.trans (by kernel_rfl) (f9_run call k p0 H)
end
noncomputable def g10 {β : Type} (call : Handle) (k : Nat) (p : List Nat) : GA → GH → Kont β → M β := gCode Tryd.prog call k (fAt Tryd.f10 p)
noncomputable def o10 {β : Type} (d : Nat) (call : Handle) (p : List Nat) (i : Nat) : GA → GH → (GA → GH → M β) → M β := gOps Tryd.prog d call (opsAt (fAt Tryd.f10 p)) i ((opsAt (fAt Tryd.f10 p)).drop i)
noncomputable def t10 {β : Type} (d : Nat) (call : Handle) (p : List Nat) (i n : Nat) : GA → GH → (GA → GH → M β) → M β := gOps Tryd.prog d call (opsAt (fAt Tryd.f10 p)) i (((opsAt (fAt Tryd.f10 p)).drop i).take n)
theorem o10_s {β : Type} {d : Nat} {call : Handle} {p : List Nat} {a : GA} {H : GH} {K : GA → GH → M β} (i n : Nat) : o10 d call p i a H K = t10 d call p i n a H fun a H => o10 d call p (i + n) a H K := gOps_split i n
section
variable {β : Type} {call : Handle} {k : Nat} {a : GA} {K : Kont β} {K' : GA → GH → M β}
variable {d : Nat → Value} {xg : Value}
variable {p0 p1 : Value}
variable {v1 v2 v3 v4 v5 v6 v7 : Value}
variable {H : GH}
theorem n10_0 : g10 call k [] a H K = g10 call k [0] a H (hSeq (g10 call k [1]) K) := at_seq (by kernel_rfl)
theorem n10_1 : g10 call k [0] a H K = o10 0 call [0] 0 a H (K .normal) := at_region (by kernel_rfl)
theorem n10_2 : g10 call k [1] a H K = g10 call k [1,0] a H (hSeq (g10 call k [1,1]) K) := at_seq (by kernel_rfl)
theorem n10_3 : g10 call k [1,0] a H K = g10 call k [1,0,0] a H (hSeq (g10 call k [1,0,1]) K) := at_seq (by kernel_rfl)
theorem n10_4 : g10 call k [1,0,0] a H K = o10 0 call [1,0,0] 0 a H (K .normal) := at_region (by kernel_rfl)
theorem n10_5 : g10 call k [1,0,1] a H K = onBool (asB (GA.eval a (.tmp 17))) (g10 call k [1,0,1,0] a H K) (g10 call k [1,0,1,1] a H K) := at_cond (by kernel_rfl)
theorem n10_6 : g10 call k [1,0,1,0] a H K = g10 call k [1,0,1,0,0] a H (hSeq (g10 call k [1,0,1,0,1]) K) := at_seq (by kernel_rfl)
theorem n10_7 : g10 call k [1,0,1,0,0] a H K = o10 0 call [1,0,1,0,0] 0 a H (K .normal) := at_region (by kernel_rfl)
theorem n10_8 : g10 call k [1,0,1,0,1] a H K = K .ret a H := at_ret (by kernel_rfl)
theorem n10_9 : g10 call k [1,0,1,1] a H K = K .normal a H := at_skip (by kernel_rfl)
theorem n10_10 : g10 call k [1,1] a H K = g10 call k [1,1,0] a H (hSeq (g10 call k [1,1,1]) K) := at_seq (by kernel_rfl)
theorem n10_11 : g10 call k [1,1,0] a H K = g10 call k [1,1,0,0] a H (hSeq (g10 call k [1,1,0,1]) K) := at_seq (by kernel_rfl)
theorem n10_12 : g10 call k [1,1,0,0] a H K = o10 0 call [1,1,0,0] 0 a H (K .normal) := at_region (by kernel_rfl)
theorem n10_13 : g10 call k [1,1,0,1] a H K = g10 call k [1,1,0,1,0] a H (hBlock 0 K) := at_block (by kernel_rfl)
theorem n10_14 : g10 call k [1,1,0,1,0] a H K = gLoop (g10 call k [1,1,0,1,0,0]) K k a H := at_loop (by kernel_rfl)
theorem n10_15 : g10 call k [1,1,0,1,0,0] a H K = g10 call k [1,1,0,1,0,0,0] a H (hSeq (g10 call k [1,1,0,1,0,0,1]) K) := at_seq (by kernel_rfl)
theorem n10_16 : g10 call k [1,1,0,1,0,0,0] a H K = g10 call k [1,1,0,1,0,0,0,0] a H (hSeq (g10 call k [1,1,0,1,0,0,0,1]) K) := at_seq (by kernel_rfl)
theorem n10_17 : g10 call k [1,1,0,1,0,0,0,0] a H K = o10 0 call [1,1,0,1,0,0,0,0] 0 a H (K .normal) := at_region (by kernel_rfl)
theorem n10_18 : g10 call k [1,1,0,1,0,0,0,1] a H K = onBool (asB (GA.eval a (.tmp 21))) (g10 call k [1,1,0,1,0,0,0,1,0] a H K) (g10 call k [1,1,0,1,0,0,0,1,1] a H K) := at_cond (by kernel_rfl)
theorem n10_19 : g10 call k [1,1,0,1,0,0,0,1,0] a H K = K .normal a H := at_skip (by kernel_rfl)
theorem n10_20 : g10 call k [1,1,0,1,0,0,1] a H K = g10 call k [1,1,0,1,0,0,1,0] a H (hSeq (g10 call k [1,1,0,1,0,0,1,1]) K) := at_seq (by kernel_rfl)
theorem n10_21 : g10 call k [1,1,0,1,0,0,1,0] a H K = g10 call k [1,1,0,1,0,0,1,0,0] a H (hBlock 1 K) := at_block (by kernel_rfl)
theorem n10_22 : g10 call k [1,1,0,1,0,0,1,0,0] a H K = g10 call k [1,1,0,1,0,0,1,0,0,0] a H (hSeq (g10 call k [1,1,0,1,0,0,1,0,0,1]) K) := at_seq (by kernel_rfl)
theorem n10_23 : g10 call k [1,1,0,1,0,0,1,0,0,0] a H K = o10 1 call [1,1,0,1,0,0,1,0,0,0] 0 a H (K .normal) := at_region (by kernel_rfl)
theorem n10_24 : g10 call k [1,1,0,1,0,0,1,0,0,1] a H K = onBool (asB (GA.eval a (.tmp 32))) (g10 call k [1,1,0,1,0,0,1,0,0,1,0] a H K) (g10 call k [1,1,0,1,0,0,1,0,0,1,1] a H K) := at_cond (by kernel_rfl)
theorem n10_25 : g10 call k [1,1,0,1,0,0,1,0,0,1,0] a H K = g10 call k [1,1,0,1,0,0,1,0,0,1,0,0] a H (hSeq (g10 call k [1,1,0,1,0,0,1,0,0,1,0,1]) K) := at_seq (by kernel_rfl)
theorem n10_26 : g10 call k [1,1,0,1,0,0,1,0,0,1,0,0] a H K = o10 0 call [1,1,0,1,0,0,1,0,0,1,0,0] 0 a H (K .normal) := at_region (by kernel_rfl)
theorem n10_27 : g10 call k [1,1,0,1,0,0,1,0,0,1,0,1] a H K = K .ret a H := at_ret (by kernel_rfl)
theorem n10_28 : g10 call k [1,1,0,1,0,0,1,0,0,1,1] a H K = K .normal a H := at_skip (by kernel_rfl)
theorem n10_29 : g10 call k [1,1,0,1,0,0,1,1] a H K = o10 0 call [1,1,0,1,0,0,1,1] 0 a H (K .normal) := at_region (by kernel_rfl)
theorem n10_30 : g10 call k [1,1,0,1,0,0,0,1,1] a H K = K (.exit 0) a H := at_exit (by kernel_rfl)
theorem n10_31 : g10 call k [1,1,1] a H K = g10 call k [1,1,1,0] a H (hSeq (g10 call k [1,1,1,1]) K) := at_seq (by kernel_rfl)
theorem n10_32 : g10 call k [1,1,1,0] a H K = o10 0 call [1,1,1,0] 0 a H (K .normal) := at_region (by kernel_rfl)
theorem n10_33 : g10 call k [1,1,1,1] a H K = K .ret a H := at_ret (by kernel_rfl)
theorem s10_0 : o10 0 call [0] 0 (FG 33 (fun _ => undef) [(1, p1), (0, p0)]) H K' =
  K' (FG 33 (fun _ => undef) [(4, (.int .i64 0)), (1, p1), (0, p0)]) H := by kernel_rfl
theorem s10_1 : t10 0 call [1,0,0] 0 6 (FG 33 (fun _ => undef) [(4, (.int .i64 0)), (1, p1), (0, p0)]) H K' =
  onV (oLen Tryd.prog 26 p0) fun v1 =>
  onV (oLen Tryd.prog 26 p1) fun v2 =>
  onV ((oBin Tryd.prog .neq 3 v1 v2).filter closed) fun v3 =>
  onGrd true v3 (K' (FG 33 (fun _ => undef) [(11, v3), (10, v3), (9, v2), (8, p1), (7, v1), (6, p0), (4, (.int .i64 0)), (1, p1), (0, p0)]) H) := by kernel_rfl
theorem s10_2 : o10 0 call [1,0,0] 6 (FG 33 d [(11, (.bool true))]) H K' =
  K' (FG 33 d [(17, (.bool true)), (16, undef), (15, undef), (14, undef), (13, undef), (12, undef), (11, (.bool true))]) H := by kernel_rfl
theorem s10_3 : o10 0 call [1,0,1,0,0] 0 (FG 33 d [(17, (.bool true)), (16, undef), (15, undef), (14, undef), (13, undef), (12, undef), (11, (.bool true))]) H K' =
  K' (FG 33 d [(4, (.int .i64 0)), (17, (.bool true)), (16, undef), (15, undef), (14, undef), (13, undef), (12, undef), (11, (.bool true))]) H := by kernel_rfl
theorem s10_4 : o10 0 call [1,0,0] 6 (FG 33 d [(11, (.bool false))]) H K' =
  onV (oCap Tryd.prog 26 (d 0)) fun v1 =>
  onV (oLen Tryd.prog 26 (d 0)) fun v2 =>
  onV ((oBin Tryd.prog .neq 3 v1 v2).filter closed) fun v3 =>
  K' (FG 33 d [(17, v3), (16, v3), (15, v2), (14, (d 0)), (13, v1), (12, (d 0)), (11, (.bool false))]) H := by kernel_rfl
theorem s10_5 : o10 0 call [1,0,1,0,0] 0 (FG 33 d [(17, v3), (16, v3), (15, v2), (14, (d 0)), (13, v1), (12, (d 0)), (11, (.bool false))]) H K' =
  K' (FG 33 d [(4, (.int .i64 0)), (17, v3), (16, v3), (15, v2), (14, (d 0)), (13, v1), (12, (d 0)), (11, (.bool false))]) H := by kernel_rfl
theorem s10_6 : o10 0 call [1,1,0,0] 0 (FG 33 d [(17, v3), (16, v3), (15, v2), (14, (d 0)), (13, v1), (12, (d 0)), (11, (.bool false))]) H K' =
  K' (FG 33 d [(5, (.int .i64 0)), (17, v3), (16, v3), (15, v2), (14, (d 0)), (13, v1), (12, (d 0)), (11, (.bool false))]) H := by kernel_rfl
theorem s10_7 : o10 0 call [1,1,0,1,0,0,0,0] 0 (FF 33 d) H K' =
  onV (oLen Tryd.prog 26 (d 0)) fun v1 =>
  onV ((oBin Tryd.prog .lss 3 (d 5) v1).filter closed) fun v2 =>
  K' (FG 33 d [(21, v2), (20, v1), (19, (d 0)), (18, (d 5))]) H := by kernel_rfl
theorem s10_8 : o10 1 call [1,1,0,1,0,0,1,0,0,0] 0 (FG 33 d [(21, v2), (20, v1), (19, (d 0)), (18, (d 5))]) H K' =
  onV (oIndexAddr Tryd.prog 26 (d 0) (d 5)) fun v3 =>
  onV (gLoad Tryd.prog 48 v3 H) fun v4 =>
  onV (oIndexAddr Tryd.prog 26 (d 1) (d 5)) fun v5 =>
  onV (gLoad Tryd.prog 48 v5 H) fun v6 =>
  onV ((oBin Tryd.prog .neq 48 v4 v6).filter closed) fun v7 =>
  K' (FG 33 d [(32, v7), (31, v6), (30, v5), (29, (d 5)), (28, (d 1)), (27, v4), (26, v3), (25, (d 5)), (24, (d 0)), (21, v2), (20, v1), (19, (d 0)), (18, (d 5))]) H := by kernel_rfl
theorem s10_9 : o10 0 call [1,1,0,1,0,0,1,0,0,1,0,0] 0 (FG 33 d [(32, v7), (31, v6), (30, v5), (29, (d 5)), (28, (d 1)), (27, v4), (26, v3), (25, (d 5)), (24, (d 0)), (21, v2), (20, v1), (19, (d 0)), (18, (d 5))]) H K' =
  K' (FG 33 d [(4, (.int .i64 0)), (32, v7), (31, v6), (30, v5), (29, (d 5)), (28, (d 1)), (27, v4), (26, v3), (25, (d 5)), (24, (d 0)), (21, v2), (20, v1), (19, (d 0)), (18, (d 5))]) H := by kernel_rfl
theorem s10_10 : o10 0 call [1,1,0,1,0,0,1,1] 0 (FG 33 d [(32, v7), (31, v6), (30, v5), (29, (d 5)), (28, (d 1)), (27, v4), (26, v3), (25, (d 5)), (24, (d 0)), (21, v2), (20, v1), (19, (d 0)), (18, (d 5))]) H K' =
  onV ((oBin Tryd.prog .add 3 (d 5) (.int .i64 1)).filter closed) fun v8 =>
  K' (FG 33 d [(5, v8), (23, v8), (22, (d 5)), (32, v7), (31, v6), (30, v5), (29, (d 5)), (28, (d 1)), (27, v4), (26, v3), (25, (d 5)), (24, (d 0)), (21, v2), (20, v1), (19, (d 0)), (18, (d 5))]) H := by kernel_rfl
theorem s10_11 : o10 0 call [1,1,1,0] 0 (FG 33 d [(21, v2), (20, v1), (19, (d 0)), (18, (d 5))]) H K' =
  K' (FG 33 d [(4, (.int .i64 1)), (21, v2), (20, v1), (19, (d 0)), (18, (d 5))]) H := by kernel_rfl
def f10_l4_P (ag : AG) (sg : Sg3) : Prop := ∀ (d : Nat → Value) (H : GH), ag (FF 33 d) H = sg (d 0) (d 1) (d 5) H
theorem f10_l4_at {ag : AG} {sg : Sg3} (h : f10_l4_P ag sg) : ag (FF 33 d) H = sg (d 0) (d 1) (d 5) H := h d H
noncomputable def f10_l4b (call : Handle) (k : Nat) (sg_l4 : Sg3) (x0 x1 x5 : Value) (H : GH) : M (Value × GH) :=
  onV (oLen Tryd.prog 26 x0) fun v1 =>
  onV ((oBin Tryd.prog .lss 3 x5 v1).filter closed) fun v2 =>
  onBool (asB v2)
  (onV (oIndexAddr Tryd.prog 26 x0 x5) fun v3 =>
  onV (gLoad Tryd.prog 48 v3 H) fun v4 =>
  onV (oIndexAddr Tryd.prog 26 x1 x5) fun v5 =>
  onV (gLoad Tryd.prog 48 v5 H) fun v6 =>
  onV ((oBin Tryd.prog .neq 48 v4 v6).filter closed) fun v7 =>
  onBool (asB v7)
  (some [((.int .i64 0), H)])
  (onV ((oBin Tryd.prog .add 3 x5 (.int .i64 1)).filter closed) fun v8 =>
  (sg_l4 x0 x1 v8 H)))
  (some [((.int .i64 1), H)])
theorem f10_l4b_eq (call : Handle) (k : Nat) (ag_l4 : AG) (sg_l4 : Sg3) (h_l4 : f10_l4_P ag_l4 sg_l4) : g10 call k [1,1,0,1,0,0] (FF 33 d) H (hLoop ag_l4 (hBlock 0 (hSeq (g10 call k [1,1,1]) (hFin Tryd.prog Tryd.f10)))) = f10_l4b call k sg_l4 (d 0) (d 1) (d 5) H := by
  unfold f10_l4b
  rw [n10_15]
  rw [n10_16]
  rw [n10_17]
  rw [s10_7]
  refine onV_c fun v1 => ?_
  refine onV_c fun v2 => ?_
  rw [hSeq_n]
  rw [n10_18]
  refine onBool_cc (by kernel_rfl) ?_ ?_
  · rw [n10_19]
    rw [hSeq_n]
    rw [n10_20]
    rw [n10_21]
    rw [n10_22]
    rw [n10_23]
    rw [s10_8]
    refine onV_c fun v3 => ?_
    refine onV_c fun v4 => ?_
    refine onV_c fun v5 => ?_
    refine onV_c fun v6 => ?_
    refine onV_c fun v7 => ?_
    rw [hSeq_n]
    rw [n10_24]
    refine onBool_cc (by kernel_rfl) ?_ ?_
    · rw [n10_25]
      rw [n10_26]
      rw [s10_9]
      rw [hSeq_n]
      rw [n10_27]
      rw [hBlock_r, hSeq_r, hLoop_r, hBlock_r, hSeq_r]
      kernel_rfl
    · rw [n10_28]
      rw [hBlock_n]
      rw [hSeq_n]
      rw [n10_29]
      rw [s10_10]
      refine onV_c fun v8 => ?_
      rw [hLoop_n]
      generalize e : (FG 33 d [(5, v8), (23, v8), (22, (d 5)), (32, v7), (31, v6), (30, v5), (29, (d 5)), (28, (d 1)), (27, v4), (26, v3), (25, (d 5)), (24, (d 0)), (21, v2), (20, v1), (19, (d 0)), (18, (d 5))]) = a
      rw [show a = (FF 33 (gf a)) from (FF_gf (by subst e; exact FG_len)).symm]
      exact (f10_l4_at (d := gf a) h_l4).trans (by subst e; kernel_rfl)
  · rw [n10_30]
    rw [hSeq_e, hLoop_e, hBlock_hit]
    rw [hSeq_n]
    rw [n10_31]
    rw [n10_32]
    rw [s10_11]
    rw [hSeq_n]
    rw [n10_33]
    kernel_rfl
noncomputable def f10_l4 (call : Handle) (k : Nat) : Nat → Value → Value → Value → GH → M (Value × GH)
  | 0, _, _, _, _ => none
  | r + 1, x0, x1, x5, H => f10_l4b call k (f10_l4 call k r) x0 x1 x5 H
theorem f10_l4_eq (call : Handle) (k : Nat) : ∀ (r : Nat), f10_l4_P (gLoop (g10 call k [1,1,0,1,0,0]) (hBlock 0 (hSeq (g10 call k [1,1,1]) (hFin Tryd.prog Tryd.f10))) r) (f10_l4 call k r) := by
  intro r
  induction r with
  | zero => unfold f10_l4_P; intros; rfl
  | succ r ih => unfold f10_l4_P; intros; exact f10_l4b_eq call k _ _ ih
noncomputable def f10_g1_6 (call : Handle) (k : Nat) (x11 : Value) (x0 x1 : Value) (H : GH) : M (Value × GH) :=
 onBool (asB x11)
  (some [((.int .i64 0), H)])
  (onV (oCap Tryd.prog 26 x0) fun v1 =>
  onV (oLen Tryd.prog 26 x0) fun v2 =>
  onV ((oBin Tryd.prog .neq 3 v1 v2).filter closed) fun v3 =>
  onBool (asB v3)
  (some [((.int .i64 0), H)])
  ((f10_l4 call k k x0 x1 (.int .i64 0) H)))
theorem f10_g1_6_true (call : Handle) (k : Nat) : o10 0 call [1,0,0] 6 (FG 33 d [(11, (.bool true))]) H ((hSeq (g10 call k [1,0,1]) (hSeq (g10 call k [1,1]) (hFin Tryd.prog Tryd.f10))) .normal) =
  some [((.int .i64 0), H)] := by
  rw [s10_2]
  rw [hSeq_n]
  rw [n10_5]
  refine (onBool_tt (by kernel_rfl)).trans ?_
  rw [n10_6]
  rw [n10_7]
  rw [s10_3]
  rw [hSeq_n]
  rw [n10_8]
  rw [hSeq_r]
  kernel_rfl
theorem f10_g1_6_false (call : Handle) (k : Nat) : o10 0 call [1,0,0] 6 (FG 33 d [(11, (.bool false))]) H ((hSeq (g10 call k [1,0,1]) (hSeq (g10 call k [1,1]) (hFin Tryd.prog Tryd.f10))) .normal) =
  onV (oCap Tryd.prog 26 (d 0)) fun v1 =>
  onV (oLen Tryd.prog 26 (d 0)) fun v2 =>
  onV ((oBin Tryd.prog .neq 3 v1 v2).filter closed) fun v3 =>
  onBool (asB v3)
  (some [((.int .i64 0), H)])
  ((f10_l4 call k k (d 0) (d 1) (.int .i64 0) H)) := by
  rw [s10_4]
  refine onV_c fun v1 => ?_
  refine onV_c fun v2 => ?_
  refine onV_c fun v3 => ?_
  rw [hSeq_n]
  rw [n10_5]
  refine onBool_cc (by kernel_rfl) ?_ ?_
  · rw [n10_6]
    rw [n10_7]
    rw [s10_5]
    rw [hSeq_n]
    rw [n10_8]
    rw [hSeq_r]
    kernel_rfl
  · rw [n10_9]
    rw [hSeq_n]
    rw [n10_10]
    rw [n10_11]
    rw [n10_12]
    rw [s10_6]
    rw [hSeq_n]
    rw [n10_13]
    rw [n10_14]
    generalize e : (FG 33 d [(5, (.int .i64 0)), (17, v3), (16, v3), (15, v2), (14, (d 0)), (13, v1), (12, (d 0)), (11, (.bool false))]) = a
    rw [show a = (FF 33 (gf a)) from (FF_gf (by subst e; exact FG_len)).symm]
    exact (f10_l4_at (d := gf a) (f10_l4_eq call k k)).trans (by subst e; kernel_rfl)
theorem f10_g1_6_eq (call : Handle) (k : Nat) : onGrd true xg (o10 0 call [1,0,0] 6 (FG 33 d [(11, xg)]) H ((hSeq (g10 call k [1,0,1]) (hSeq (g10 call k [1,1]) (hFin Tryd.prog Tryd.f10))) .normal)) =
  f10_g1_6 call k xg (d 0) (d 1) H := by
  cases xg with
  | bool b => cases b with
    | true => exact onGrd_b.trans (f10_g1_6_true call k)
    | false => exact onGrd_b.trans (f10_g1_6_false call k)
  | _ => kernel_rfl
noncomputable def f10_sh (call : Handle) (k : Nat) (p0 p1 : Value) (H : GH) : M (Value × GH) :=
  onV (oLen Tryd.prog 26 p0) fun v1 =>
  onV (oLen Tryd.prog 26 p1) fun v2 =>
  onV ((oBin Tryd.prog .neq 3 v1 v2).filter closed) fun v3 =>
  (f10_g1_6 call k v3 p0 p1 H)
theorem f10_run (call : Handle) (k : Nat) (p0 p1 : Value) (H : GH) : g10 call k [] (FG 33 (fun _ => undef) [(1, p1), (0, p0)]) H (hFin Tryd.prog Tryd.f10) = f10_sh call k p0 p1 H := by
  unfold f10_sh
  rw [n10_0]
  rw [n10_1]
  rw [s10_0]
  rw [hSeq_n]
  rw [n10_2]
  rw [n10_3]
  rw [n10_4]
  rw [o10_s 0 6, s10_1]
  refine onV_c fun v1 => ?_
  refine onV_c fun v2 => ?_
  refine onV_c fun v3 => ?_
  generalize e : (FG 33 (fun _ => undef) [(11, v3), (10, v3), (9, v2), (8, p1), (7, v1), (6, p0), (4, (.int .i64 0)), (1, p1), (0, p0)]) = a
  rw [show a = (FG 33 (gf a) [(11, v3)]) from (FG_eq (by subst e; exact FG_len) (FS_cons (by subst e; kernel_rfl) (FS_nil))).symm]
  exact (f10_g1_6_eq (d := gf a) call k).trans (by subst e; kernel_rfl)
theorem f10_eq (call : Handle) (k : Nat) (p0 p1 : Value) (H : GH) : gFunc Tryd.prog call k Tryd.f10 [p0, p1] H = f10_sh call k p0 p1 H :=
  Eq.trans (by kernel_rfl) (f10_run call k p0 p1 H)
end
end Go.Proofs.YtdhadannleldiaaDoor
