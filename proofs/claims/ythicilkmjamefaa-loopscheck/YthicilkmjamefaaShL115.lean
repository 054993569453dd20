/- PRINTED by sh.py: shallow forms of functions of the program, each proved equal to what the ghost machine makes of its code. -/
import Derived.Test.YthicilkmjamefaaGkTop
import Derived.Test.YthicilkmjamefaaProg
namespace Go.Proofs.Ythicilkmjamefaa
open Go.Gh
set_option linter.unusedVariables false
set_option linter.unusedSimpArgs false
set_option maxRecDepth 100000
section
variable {β : Type} {call : Handle} {k : Nat} {a : GA} {K : Kont β} {K' : GA → GH → M β}
variable {d : Nat → Value} {xg : Value}
variable {p0 : Value}
variable {v1 : Value}
variable {H : GH}
theorem n115_0 : gCode Try.prog call k (fAt Try.f115 []) a H K = gCode Try.prog call k (fAt Try.f115 [0]) a H (hSeq (gCode Try.prog call k (fAt Try.f115 [1])) K) := at_seq (by kernel_rfl)
theorem n115_1 : gCode Try.prog call k (fAt Try.f115 [0]) a H K = gOps Try.prog 0 call (opsAt (fAt Try.f115 [0])) ((opsAt (fAt Try.f115 [0])).drop 0) a H (K .normal) := at_region (by kernel_rfl)
theorem n115_2 : gCode Try.prog call k (fAt Try.f115 [1]) a H K = gCode Try.prog call k (fAt Try.f115 [1,0]) a H (hSeq (gCode Try.prog call k (fAt Try.f115 [1,1])) K) := at_seq (by kernel_rfl)
theorem n115_3 : gCode Try.prog call k (fAt Try.f115 [1,0]) a H K = gCode Try.prog call k (fAt Try.f115 [1,0,0]) a H (hSeq (gCode Try.prog call k (fAt Try.f115 [1,0,1])) K) := at_seq (by kernel_rfl)
theorem n115_4 : gCode Try.prog call k (fAt Try.f115 [1,0,0]) a H K = gOps Try.prog 0 call (opsAt (fAt Try.f115 [1,0,0])) ((opsAt (fAt Try.f115 [1,0,0])).drop 0) a H (K .normal) := at_region (by kernel_rfl)
theorem n115_5 : gCode Try.prog call k (fAt Try.f115 [1,0,1]) a H K = onBool (asB (GA.eval a (.tmp 4))) (gCode Try.prog call k (fAt Try.f115 [1,0,1,0]) a H K) (gCode Try.prog call k (fAt Try.f115 [1,0,1,1]) a H K) := at_cond (by kernel_rfl)
theorem n115_6 : gCode Try.prog call k (fAt Try.f115 [1,0,1,0]) a H K = gCode Try.prog call k (fAt Try.f115 [1,0,1,0,0]) a H (hSeq (gCode Try.prog call k (fAt Try.f115 [1,0,1,0,1])) K) := at_seq (by kernel_rfl)
theorem n115_7 : gCode Try.prog call k (fAt Try.f115 [1,0,1,0,0]) a H K = gOps Try.prog 0 call (opsAt (fAt Try.f115 [1,0,1,0,0])) ((opsAt (fAt Try.f115 [1,0,1,0,0])).drop 0) a H (K .normal) := at_region (by kernel_rfl)
theorem n115_8 : gCode Try.prog call k (fAt Try.f115 [1,0,1,0,1]) a H K = K .ret a H := at_ret (by kernel_rfl)
theorem n115_9 : gCode Try.prog call k (fAt Try.f115 [1,0,1,1]) a H K = K .normal a H := at_skip (by kernel_rfl)
theorem n115_10 : gCode Try.prog call k (fAt Try.f115 [1,1]) a H K = gCode Try.prog call k (fAt Try.f115 [1,1,0]) a H (hSeq (gCode Try.prog call k (fAt Try.f115 [1,1,1])) K) := at_seq (by kernel_rfl)
theorem n115_11 : gCode Try.prog call k (fAt Try.f115 [1,1,0]) a H K = gOps Try.prog 0 call (opsAt (fAt Try.f115 [1,1,0])) ((opsAt (fAt Try.f115 [1,1,0])).drop 0) a H (K .normal) := at_region (by kernel_rfl)
theorem n115_12 : gCode Try.prog call k (fAt Try.f115 [1,1,1]) a H K = K .ret a H := at_ret (by kernel_rfl)
theorem s115_0 : gOps Try.prog 0 call (opsAt (fAt Try.f115 [0])) ((opsAt (fAt Try.f115 [0])).drop 0) ((FF 8 fun _ => undef) |>.set 0 p0) H K' =
  K' ((FF 8 fun _ => undef) |>.set 0 p0 |>.set 2 (.slice none 0 0)) H := by kernel_rfl
theorem s115_1 : gOps Try.prog 0 call (opsAt (fAt Try.f115 [1,0,0])) ((opsAt (fAt Try.f115 [1,0,0])).drop 0) ((FF 8 fun _ => undef) |>.set 0 p0 |>.set 2 (.slice none 0 0)) H K' =
  onV ((oBin Try.prog .eql 26 p0 (.slice none 0 0)).filter closed) fun v1 =>
  K' ((FF 8 fun _ => undef) |>.set 0 p0 |>.set 2 (.slice none 0 0) |>.set 3 p0 |>.set 4 v1) H := by kernel_rfl
theorem s115_2 : gOps Try.prog 0 call (opsAt (fAt Try.f115 [1,0,1,0,0])) ((opsAt (fAt Try.f115 [1,0,1,0,0])).drop 0) ((FF 8 fun _ => undef) |>.set 0 p0 |>.set 2 (.slice none 0 0) |>.set 3 p0 |>.set 4 v1) H K' =
  K' ((FF 8 fun _ => undef) |>.set 0 p0 |>.set 2 (.slice none 0 0) |>.set 3 p0 |>.set 4 v1 |>.set 2 (.slice none 0 0)) H := by kernel_rfl
theorem s115_3 : gOps Try.prog 0 call (opsAt (fAt Try.f115 [1,1,0])) ((opsAt (fAt Try.f115 [1,1,0])).drop 0) ((FF 8 fun _ => undef) |>.set 0 p0 |>.set 2 (.slice none 0 0) |>.set 3 p0 |>.set 4 v1) H K' =
  onVH (gBuildSlice Try.prog 26 0 [] H) fun v2 H3 =>
  onVH (gAppend Try.prog 26 26 v2 p0 H3) fun v4 H5 =>
  K' ((FF 8 fun _ => undef) |>.set 0 p0 |>.set 2 (.slice none 0 0) |>.set 3 p0 |>.set 4 v1 |>.set 5 v2 |>.set 6 p0 |>.set 7 v4 |>.set 2 v4) H5 := by kernel_rfl
noncomputable def f115_sh (call : Handle) (k : Nat) (p0 : Value) (H : GH) : M (Value × GH) :=
  onV ((oBin Try.prog .eql 26 p0 (.slice none 0 0)).filter closed) fun v1 =>
  onBool (asB v1)
  (some [((.slice none 0 0), H)])
  (onVH (gBuildSlice Try.prog 26 0 [] H) fun v2 H3 =>
  onVH (gAppend Try.prog 26 26 v2 p0 H3) fun v4 H5 =>
  some [(v4, H5)])
theorem f115_run (call : Handle) (k : Nat) (p0 : Value) (H : GH) : gCode Try.prog call k (fAt Try.f115 []) ((FF 8 fun _ => undef) |>.set 0 p0) H (hFin Try.prog Try.f115) = f115_sh call k p0 H := by
  unfold f115_sh
  rw [n115_0]
  rw [n115_1]
  rw [s115_0]
  rw [hSeq_n]
  rw [n115_2]
  rw [n115_3]
  rw [n115_4]
  rw [s115_1]
  refine onV_c fun v1 => ?_
  rw [hSeq_n]
  rw [n115_5]
  refine onBool_cc (by kernel_rfl) ?_ ?_
  · rw [n115_6]
    rw [n115_7]
    rw [s115_2]
    rw [hSeq_n]
    rw [n115_8]
    rw [hSeq_r]
    kernel_rfl
  · rw [n115_9]
    rw [hSeq_n]
    rw [n115_10]
    rw [n115_11]
    rw [s115_3]
    refine onVH_c fun v2 H3 => ?_
    refine onVH_c fun v4 H5 => ?_
    rw [hSeq_n]
    rw [n115_12]
    kernel_rfl
theorem f115_eq (call : Handle) (k : Nat) (p0 : Value) (H : GH) : gFunc Try.prog call k Try.f115 [p0] H = f115_sh call k p0 H :=
  Eq.trans (by kernel_rfl) (f115_run call k p0 H)
end
section
variable {β : Type} {call : Handle} {k : Nat} {a : GA} {K : Kont β} {K' : GA → GH → M β}
variable {d : Nat → Value} {xg : Value}
variable {p0 p1 : Value}
variable {v1 v2 v3 v4 : Value}
variable {H H5 : GH}
theorem n118_0 : gCode Try.prog call k (fAt Try.f118 []) a H K = gCode Try.prog call k (fAt Try.f118 [0]) a H (hSeq (gCode Try.prog call k (fAt Try.f118 [1])) K) := at_seq (by kernel_rfl)
theorem n118_1 : gCode Try.prog call k (fAt Try.f118 [0]) a H K = gOps Try.prog 0 call (opsAt (fAt Try.f118 [0])) ((opsAt (fAt Try.f118 [0])).drop 0) a H (K .normal) := at_region (by kernel_rfl)
theorem n118_2 : gCode Try.prog call k (fAt Try.f118 [1]) a H K = gCode Try.prog call k (fAt Try.f118 [1,0]) a H (hSeq (gCode Try.prog call k (fAt Try.f118 [1,1])) K) := at_seq (by kernel_rfl)
theorem n118_3 : gCode Try.prog call k (fAt Try.f118 [1,0]) a H K = gCode Try.prog call k (fAt Try.f118 [1,0,0]) a H (hSeq (gCode Try.prog call k (fAt Try.f118 [1,0,1])) K) := at_seq (by kernel_rfl)
theorem n118_4 : gCode Try.prog call k (fAt Try.f118 [1,0,0]) a H K = gOps Try.prog 0 call (opsAt (fAt Try.f118 [1,0,0])) ((opsAt (fAt Try.f118 [1,0,0])).drop 0) a H (K .normal) := at_region (by kernel_rfl)
theorem n118_5 : gCode Try.prog call k (fAt Try.f118 [1,0,1]) a H K = gCode Try.prog call k (fAt Try.f118 [1,0,1,0]) a H (hBlock 0 K) := at_block (by kernel_rfl)
theorem n118_6 : gCode Try.prog call k (fAt Try.f118 [1,0,1,0]) a H K = gLoop (gCode Try.prog call k (fAt Try.f118 [1,0,1,0,0])) K k a H := at_loop (by kernel_rfl)
theorem n118_7 : gCode Try.prog call k (fAt Try.f118 [1,0,1,0,0]) a H K = gCode Try.prog call k (fAt Try.f118 [1,0,1,0,0,0]) a H (hSeq (gCode Try.prog call k (fAt Try.f118 [1,0,1,0,0,1])) K) := at_seq (by kernel_rfl)
theorem n118_8 : gCode Try.prog call k (fAt Try.f118 [1,0,1,0,0,0]) a H K = gOps Try.prog 0 call (opsAt (fAt Try.f118 [1,0,1,0,0,0])) ((opsAt (fAt Try.f118 [1,0,1,0,0,0])).drop 0) a H (K .normal) := at_region (by kernel_rfl)
theorem n118_9 : gCode Try.prog call k (fAt Try.f118 [1,0,1,0,0,1]) a H K = gCode Try.prog call k (fAt Try.f118 [1,0,1,0,0,1,0]) a H (hSeq (gCode Try.prog call k (fAt Try.f118 [1,0,1,0,0,1,1])) K) := at_seq (by kernel_rfl)
theorem n118_10 : gCode Try.prog call k (fAt Try.f118 [1,0,1,0,0,1,0]) a H K = onBool (asB (GA.eval a (.tmp 9))) (gCode Try.prog call k (fAt Try.f118 [1,0,1,0,0,1,0,0]) a H K) (gCode Try.prog call k (fAt Try.f118 [1,0,1,0,0,1,0,1]) a H K) := at_cond (by kernel_rfl)
theorem n118_11 : gCode Try.prog call k (fAt Try.f118 [1,0,1,0,0,1,0,0]) a H K = K .normal a H := at_skip (by kernel_rfl)
theorem n118_12 : gCode Try.prog call k (fAt Try.f118 [1,0,1,0,0,1,1]) a H K = gCode Try.prog call k (fAt Try.f118 [1,0,1,0,0,1,1,0]) a H (hSeq (gCode Try.prog call k (fAt Try.f118 [1,0,1,0,0,1,1,1])) K) := at_seq (by kernel_rfl)
theorem n118_13 : gCode Try.prog call k (fAt Try.f118 [1,0,1,0,0,1,1,0]) a H K = gCode Try.prog call k (fAt Try.f118 [1,0,1,0,0,1,1,0,0]) a H (hBlock 1 K) := at_block (by kernel_rfl)
theorem n118_14 : gCode Try.prog call k (fAt Try.f118 [1,0,1,0,0,1,1,0,0]) a H K = gCode Try.prog call k (fAt Try.f118 [1,0,1,0,0,1,1,0,0,0]) a H (hSeq (gCode Try.prog call k (fAt Try.f118 [1,0,1,0,0,1,1,0,0,1])) K) := at_seq (by kernel_rfl)
theorem n118_15 : gCode Try.prog call k (fAt Try.f118 [1,0,1,0,0,1,1,0,0,0]) a H K = gOps Try.prog 0 call (opsAt (fAt Try.f118 [1,0,1,0,0,1,1,0,0,0])) ((opsAt (fAt Try.f118 [1,0,1,0,0,1,1,0,0,0])).drop 0) a H (K .normal) := at_region (by kernel_rfl)
theorem n118_16 : gCode Try.prog call k (fAt Try.f118 [1,0,1,0,0,1,1,0,0,1]) a H K = gCode Try.prog call k (fAt Try.f118 [1,0,1,0,0,1,1,0,0,1,0]) a H (hSeq (gCode Try.prog call k (fAt Try.f118 [1,0,1,0,0,1,1,0,0,1,1])) K) := at_seq (by kernel_rfl)
theorem n118_17 : gCode Try.prog call k (fAt Try.f118 [1,0,1,0,0,1,1,0,0,1,0]) a H K = gOps Try.prog 0 call (opsAt (fAt Try.f118 [1,0,1,0,0,1,1,0,0,1,0])) ((opsAt (fAt Try.f118 [1,0,1,0,0,1,1,0,0,1,0])).drop 0) a H (K .normal) := at_region (by kernel_rfl)
theorem n118_18 : gCode Try.prog call k (fAt Try.f118 [1,0,1,0,0,1,1,0,0,1,1]) a H K = onBool (asB (GA.eval a (.tmp 16))) (gCode Try.prog call k (fAt Try.f118 [1,0,1,0,0,1,1,0,0,1,1,0]) a H K) (gCode Try.prog call k (fAt Try.f118 [1,0,1,0,0,1,1,0,0,1,1,1]) a H K) := at_cond (by kernel_rfl)
theorem n118_19 : gCode Try.prog call k (fAt Try.f118 [1,0,1,0,0,1,1,0,0,1,1,0]) a H K = gCode Try.prog call k (fAt Try.f118 [1,0,1,0,0,1,1,0,0,1,1,0,0]) a H (hSeq (gCode Try.prog call k (fAt Try.f118 [1,0,1,0,0,1,1,0,0,1,1,0,1])) K) := at_seq (by kernel_rfl)
theorem n118_20 : gCode Try.prog call k (fAt Try.f118 [1,0,1,0,0,1,1,0,0,1,1,0,0]) a H K = gOps Try.prog 0 call (opsAt (fAt Try.f118 [1,0,1,0,0,1,1,0,0,1,1,0,0])) ((opsAt (fAt Try.f118 [1,0,1,0,0,1,1,0,0,1,1,0,0])).drop 0) a H (K .normal) := at_region (by kernel_rfl)
theorem n118_21 : gCode Try.prog call k (fAt Try.f118 [1,0,1,0,0,1,1,0,0,1,1,0,1]) a H K = K .ret a H := at_ret (by kernel_rfl)
theorem n118_22 : gCode Try.prog call k (fAt Try.f118 [1,0,1,0,0,1,1,0,0,1,1,1]) a H K = K .normal a H := at_skip (by kernel_rfl)
theorem n118_23 : gCode Try.prog call k (fAt Try.f118 [1,0,1,0,0,1,1,1]) a H K = gOps Try.prog 0 call (opsAt (fAt Try.f118 [1,0,1,0,0,1,1,1])) ((opsAt (fAt Try.f118 [1,0,1,0,0,1,1,1])).drop 0) a H (K .normal) := at_region (by kernel_rfl)
theorem n118_24 : gCode Try.prog call k (fAt Try.f118 [1,0,1,0,0,1,0,1]) a H K = K (.exit 0) a H := at_exit (by kernel_rfl)
theorem n118_25 : gCode Try.prog call k (fAt Try.f118 [1,1]) a H K = gCode Try.prog call k (fAt Try.f118 [1,1,0]) a H (hSeq (gCode Try.prog call k (fAt Try.f118 [1,1,1])) K) := at_seq (by kernel_rfl)
theorem n118_26 : gCode Try.prog call k (fAt Try.f118 [1,1,0]) a H K = gOps Try.prog 0 call (opsAt (fAt Try.f118 [1,1,0])) ((opsAt (fAt Try.f118 [1,1,0])).drop 0) a H (K .normal) := at_region (by kernel_rfl)
theorem n118_27 : gCode Try.prog call k (fAt Try.f118 [1,1,1]) a H K = K .ret a H := at_ret (by kernel_rfl)
theorem s118_0 : gOps Try.prog 0 call (opsAt (fAt Try.f118 [0])) ((opsAt (fAt Try.f118 [0])).drop 0) ((FF 19 fun _ => undef) |>.set 0 p0 |>.set 1 p1) H K' =
  K' ((FF 19 fun _ => undef) |>.set 0 p0 |>.set 1 p1 |>.set 4 (.int .i64 0)) H := by kernel_rfl
theorem s118_1 : gOps Try.prog 0 call (opsAt (fAt Try.f118 [1,0,0])) ((opsAt (fAt Try.f118 [1,0,0])).drop 0) ((FF 19 fun _ => undef) |>.set 0 p0 |>.set 1 p1 |>.set 4 (.int .i64 0)) H K' =
  onV (oLen Try.prog 26 p0) fun v1 =>
  K' ((FF 19 fun _ => undef) |>.set 0 p0 |>.set 1 p1 |>.set 4 (.int .i64 0) |>.set 6 p0 |>.set 7 v1 |>.set 8 (.int .i64 0)) H := by kernel_rfl
theorem s118_2 : gOps Try.prog 0 call (opsAt (fAt Try.f118 [1,0,1,0,0,0])) ((opsAt (fAt Try.f118 [1,0,1,0,0,0])).drop 0) (FF 19 d) H K' =
  onV ((oBin Try.prog .lss 3 (d 8) (d 7)).filter closed) fun v1 =>
  K' ((FF 19 d) |>.set 9 v1) H := by kernel_rfl
theorem s118_3 : gOps Try.prog 0 call (opsAt (fAt Try.f118 [1,0,1,0,0,1,1,0,0,0])) ((opsAt (fAt Try.f118 [1,0,1,0,0,1,1,0,0,0])).drop 0) ((FF 19 d) |>.set 9 v1) H K' =
  K' ((FF 19 d) |>.set 9 v1 |>.set 10 (d 8) |>.set 5 (d 8)) H := by kernel_rfl
theorem s118_4 : gOps Try.prog 0 call (opsAt (fAt Try.f118 [1,0,1,0,0,1,1,0,0,1,0])) ((opsAt (fAt Try.f118 [1,0,1,0,0,1,1,0,0,1,0])).drop 0) ((FF 19 d) |>.set 9 v1 |>.set 10 (d 8) |>.set 5 (d 8)) H K' =
  onV (oIndexAddr Try.prog 26 (d 0) (d 8)) fun v2 =>
  onV (gLoad Try.prog 29 v2 H) fun v3 =>
  onCall 0 call (d 1) [v3] H fun v4 H5 =>
  K' ((FF 19 d) |>.set 9 v1 |>.set 10 (d 8) |>.set 5 (d 8) |>.set 11 (d 1) |>.set 12 (d 0) |>.set 13 (d 8) |>.set 14 v2 |>.set 15 v3 |>.set 16 v4) H5 := by kernel_rfl
theorem s118_5 : gOps Try.prog 0 call (opsAt (fAt Try.f118 [1,0,1,0,0,1,1,0,0,1,1,0,0])) ((opsAt (fAt Try.f118 [1,0,1,0,0,1,1,0,0,1,1,0,0])).drop 0) ((FF 19 d) |>.set 9 v1 |>.set 10 (d 8) |>.set 5 (d 8) |>.set 11 (d 1) |>.set 12 (d 0) |>.set 13 (d 8) |>.set 14 v2 |>.set 15 v3 |>.set 16 v4) H5 K' =
  K' ((FF 19 d) |>.set 9 v1 |>.set 10 (d 8) |>.set 5 (d 8) |>.set 11 (d 1) |>.set 12 (d 0) |>.set 13 (d 8) |>.set 14 v2 |>.set 15 v3 |>.set 16 v4 |>.set 17 (d 8) |>.set 4 (d 8)) H5 := by kernel_rfl
theorem s118_6 : gOps Try.prog 0 call (opsAt (fAt Try.f118 [1,0,1,0,0,1,1,1])) ((opsAt (fAt Try.f118 [1,0,1,0,0,1,1,1])).drop 0) ((FF 19 d) |>.set 9 v1 |>.set 10 (d 8) |>.set 5 (d 8) |>.set 11 (d 1) |>.set 12 (d 0) |>.set 13 (d 8) |>.set 14 v2 |>.set 15 v3 |>.set 16 v4) H5 K' =
  onV ((oBin Try.prog .add 3 (d 8) (.int .i64 1)).filter closed) fun v6 =>
  K' ((FF 19 d) |>.set 9 v1 |>.set 10 (d 8) |>.set 5 (d 8) |>.set 11 (d 1) |>.set 12 (d 0) |>.set 13 (d 8) |>.set 14 v2 |>.set 15 v3 |>.set 16 v4 |>.set 18 v6 |>.set 8 v6) H5 := by kernel_rfl
theorem s118_7 : gOps Try.prog 0 call (opsAt (fAt Try.f118 [1,1,0])) ((opsAt (fAt Try.f118 [1,1,0])).drop 0) ((FF 19 d) |>.set 9 v1) H K' =
  K' ((FF 19 d) |>.set 9 v1 |>.set 4 (.int .i64 (-1))) H := by kernel_rfl
def f118_l2_P (ag : GA → GH → M (Value × GH)) (sg : Value → Value → Value → Value → GH → M (Value × GH)) : Prop := ∀ (d : Nat → Value) (H : GH), ag (FF 19 d) H = sg (d 0) (d 1) (d 7) (d 8) H
theorem f118_l2_at {ag : GA → GH → M (Value × GH)} {sg : Value → Value → Value → Value → GH → M (Value × GH)} (h : f118_l2_P ag sg) : ag (FF 19 d) H = sg (d 0) (d 1) (d 7) (d 8) H := h d H
noncomputable def f118_l2b (call : Handle) (k : Nat) (sg_l2 : Value → Value → Value → Value → GH → M (Value × GH)) (x0 x1 x7 x8 : Value) (H : GH) : M (Value × GH) :=
  onV ((oBin Try.prog .lss 3 x8 x7).filter closed) fun v1 =>
  onBool (asB v1)
  (onV (oIndexAddr Try.prog 26 x0 x8) fun v2 =>
  onV (gLoad Try.prog 29 v2 H) fun v3 =>
  onCall 0 call x1 [v3] H fun v4 H5 =>
  onBool (asB v4)
  (some [(x8, H5)])
  (onV ((oBin Try.prog .add 3 x8 (.int .i64 1)).filter closed) fun v6 =>
  (sg_l2 x0 x1 x7 v6 H5)))
  (some [((.int .i64 (-1)), H)])
theorem f118_l2b_eq (call : Handle) (k : Nat) (ag_l2 : GA → GH → M (Value × GH)) (sg_l2 : Value → Value → Value → Value → GH → M (Value × GH)) (h_l2 : f118_l2_P ag_l2 sg_l2) : gCode Try.prog call k (fAt Try.f118 [1,0,1,0,0]) (FF 19 d) H (hLoop ag_l2 (hBlock 0 (hSeq (gCode Try.prog call k (fAt Try.f118 [1,1])) (hFin Try.prog Try.f118)))) = f118_l2b call k sg_l2 (d 0) (d 1) (d 7) (d 8) H := by
  unfold f118_l2b
  rw [n118_7]
  rw [n118_8]
  rw [s118_2]
  refine onV_c fun v1 => ?_
  rw [hSeq_n]
  rw [n118_9]
  rw [n118_10]
  refine onBool_cc (by kernel_rfl) ?_ ?_
  · rw [n118_11]
    rw [hSeq_n]
    rw [n118_12]
    rw [n118_13]
    rw [n118_14]
    rw [n118_15]
    rw [s118_3]
    rw [hSeq_n]
    rw [n118_16]
    rw [n118_17]
    rw [s118_4]
    refine onV_c fun v2 => ?_
    refine onV_c fun v3 => ?_
    refine onCall_c fun v4 H5 => ?_
    rw [hSeq_n]
    rw [n118_18]
    refine onBool_cc (by kernel_rfl) ?_ ?_
    · rw [n118_19]
      rw [n118_20]
      rw [s118_5]
      rw [hSeq_n]
      rw [n118_21]
      rw [hBlock_r, hSeq_r, hLoop_r, hBlock_r, hSeq_r]
      kernel_rfl
    · rw [n118_22]
      rw [hBlock_n]
      rw [hSeq_n]
      rw [n118_23]
      rw [s118_6]
      refine onV_c fun v6 => ?_
      rw [hLoop_n]
      rw [show ((FF 19 d) |>.set 9 v1 |>.set 10 (d 8) |>.set 5 (d 8) |>.set 11 (d 1) |>.set 12 (d 0) |>.set 13 (d 8) |>.set 14 v2 |>.set 15 v3 |>.set 16 v4 |>.set 18 v6 |>.set 8 v6) = (FF 19 (gf ((FF 19 d) |>.set 9 v1 |>.set 10 (d 8) |>.set 5 (d 8) |>.set 11 (d 1) |>.set 12 (d 0) |>.set 13 (d 8) |>.set 14 v2 |>.set 15 v3 |>.set 16 v4 |>.set 18 v6 |>.set 8 v6))) from by kernel_rfl]
      exact (f118_l2_at (d := gf ((FF 19 d) |>.set 9 v1 |>.set 10 (d 8) |>.set 5 (d 8) |>.set 11 (d 1) |>.set 12 (d 0) |>.set 13 (d 8) |>.set 14 v2 |>.set 15 v3 |>.set 16 v4 |>.set 18 v6 |>.set 8 v6)) h_l2).trans (by kernel_rfl)
  · rw [n118_24]
    rw [hSeq_e, hLoop_e, hBlock_hit]
    rw [hSeq_n]
    rw [n118_25]
    rw [n118_26]
    rw [s118_7]
    rw [hSeq_n]
    rw [n118_27]
    kernel_rfl
noncomputable def f118_l2 (call : Handle) (k : Nat) : Nat → Value → Value → Value → Value → GH → M (Value × GH)
  | 0, _, _, _, _, _ => none
  | r + 1, x0, x1, x7, x8, H => f118_l2b call k (f118_l2 call k r) x0 x1 x7 x8 H
theorem f118_l2_eq (call : Handle) (k : Nat) : ∀ (r : Nat), f118_l2_P (gLoop (gCode Try.prog call k (fAt Try.f118 [1,0,1,0,0])) (hBlock 0 (hSeq (gCode Try.prog call k (fAt Try.f118 [1,1])) (hFin Try.prog Try.f118))) r) (f118_l2 call k r) := by
  intro r
  induction r with
  | zero => unfold f118_l2_P; intros; rfl
  | succ r ih => unfold f118_l2_P; intros; exact f118_l2b_eq call k _ _ ih
noncomputable def f118_sh (call : Handle) (k : Nat) (p0 p1 : Value) (H : GH) : M (Value × GH) :=
  onV (oLen Try.prog 26 p0) fun v1 =>
  (f118_l2 call k k p0 p1 v1 (.int .i64 0) H)
theorem f118_run (call : Handle) (k : Nat) (p0 p1 : Value) (H : GH) : gCode Try.prog call k (fAt Try.f118 []) ((FF 19 fun _ => undef) |>.set 0 p0 |>.set 1 p1) H (hFin Try.prog Try.f118) = f118_sh call k p0 p1 H := by
  unfold f118_sh
  rw [n118_0]
  rw [n118_1]
  rw [s118_0]
  rw [hSeq_n]
  rw [n118_2]
  rw [n118_3]
  rw [n118_4]
  rw [s118_1]
  refine onV_c fun v1 => ?_
  rw [hSeq_n]
  rw [n118_5]
  rw [n118_6]
  rw [show ((FF 19 fun _ => undef) |>.set 0 p0 |>.set 1 p1 |>.set 4 (.int .i64 0) |>.set 6 p0 |>.set 7 v1 |>.set 8 (.int .i64 0)) = (FF 19 (gf ((FF 19 fun _ => undef) |>.set 0 p0 |>.set 1 p1 |>.set 4 (.int .i64 0) |>.set 6 p0 |>.set 7 v1 |>.set 8 (.int .i64 0)))) from by kernel_rfl]
  exact (f118_l2_at (d := gf ((FF 19 fun _ => undef) |>.set 0 p0 |>.set 1 p1 |>.set 4 (.int .i64 0) |>.set 6 p0 |>.set 7 v1 |>.set 8 (.int .i64 0))) (f118_l2_eq call k k)).trans (by kernel_rfl)
theorem f118_eq (call : Handle) (k : Nat) (p0 p1 : Value) (H : GH) : gFunc Try.prog call k Try.f118 [p0, p1] H = f118_sh call k p0 p1 H :=
  Eq.trans (by kernel_rfl) (f118_run call k p0 p1 H)
end
section
variable {β : Type} {call : Handle} {k : Nat} {a : GA} {K : Kont β} {K' : GA → GH → M β}
variable {d : Nat → Value} {xg : Value}
variable {p0 p1 : Value}
variable {H : GH}
theorem n135_0 : gCode Try.prog call k (fAt Try.f135 []) a H K = gCode Try.prog call k (fAt Try.f135 [0]) a H (hSeq (gCode Try.prog call k (fAt Try.f135 [1])) K) := at_seq (by kernel_rfl)
theorem n135_1 : gCode Try.prog call k (fAt Try.f135 [0]) a H K = gOps Try.prog 0 call (opsAt (fAt Try.f135 [0])) ((opsAt (fAt Try.f135 [0])).drop 0) a H (K .normal) := at_region (by kernel_rfl)
theorem n135_2 : gCode Try.prog call k (fAt Try.f135 [1]) a H K = gCode Try.prog call k (fAt Try.f135 [1,0]) a H (hSeq (gCode Try.prog call k (fAt Try.f135 [1,1])) K) := at_seq (by kernel_rfl)
theorem n135_3 : gCode Try.prog call k (fAt Try.f135 [1,0]) a H K = gOps Try.prog 1 call (opsAt (fAt Try.f135 [1,0])) ((opsAt (fAt Try.f135 [1,0])).drop 0) a H (K .normal) := at_region (by kernel_rfl)
theorem n135_4 : gCode Try.prog call k (fAt Try.f135 [1,1]) a H K = K .ret a H := at_ret (by kernel_rfl)
theorem s135_0 : gOps Try.prog 0 call (opsAt (fAt Try.f135 [0])) ((opsAt (fAt Try.f135 [0])).drop 0) ((FF 33 fun _ => undef) |>.set 0 p0 |>.set 1 p1) H K' =
  K' ((FF 33 fun _ => undef) |>.set 0 p0 |>.set 1 p1 |>.set 3 (.pointer (some ⟨H.n, 0, none⟩)) |>.set 4 (.bool false)) (GH.push H (.row (Value.cells p1).toList 29 false)) := by kernel_rfl
theorem s135_1 : gOps Try.prog 1 call (opsAt (fAt Try.f135 [1,0])) (((opsAt (fAt Try.f135 [1,0])).drop 0).take 4) (FF 33 d) H K' =
  onV (oFieldAddr Try.prog 29 (d 3) 0) fun v1 =>
  onV (gLoad Try.prog 5 v1 H) fun v2 =>
  onV ((oBin Try.prog .geq 5 v2 (.int .u8 1)).filter closed) fun v3 =>
  onGrd true v3 (K' ((FF 33 d) |>.set 5 v1 |>.set 6 v2 |>.set 7 v3 |>.set 8 v3) H) := by kernel_rfl
theorem s135_2 : gOps Try.prog 1 call (opsAt (fAt Try.f135 [1,0])) (((opsAt (fAt Try.f135 [1,0])).drop 4).take 8) ((FF 33 d) |>.set 8 (.bool true)) H K' =
  onV (oFieldAddr Try.prog 29 (d 3) 0) fun v1 =>
  onV (gLoad Try.prog 5 v1 H) fun v2 =>
  onV ((oConvert Try.prog 5 3 v2).filter closed) fun v3 =>
  onV (oLen Try.prog 58 (d 0)) fun v4 =>
  onV ((oBin Try.prog .leq 3 v3 v4).filter closed) fun v5 =>
  onGrd true v5 (K' ((FF 33 d) |>.set 8 (.bool true) |>.set 9 v1 |>.set 10 v2 |>.set 11 v3 |>.set 12 (d 0) |>.set 13 v4 |>.set 14 v5 |>.set 15 v5 |>.set 16 v5) H) := by kernel_rfl
theorem s135_3 : gOps Try.prog 1 call (opsAt (fAt Try.f135 [1,0])) ((opsAt (fAt Try.f135 [1,0])).drop 4) ((FF 33 d) |>.set 8 (.bool false)) H K' =
  K' ((FF 33 d) |>.set 8 (.bool false) |>.set 9 undef |>.set 10 undef |>.set 11 undef |>.set 12 undef |>.set 13 undef |>.set 14 undef |>.set 15 (.bool false) |>.set 16 (.bool false) |>.set 17 undef |>.set 18 undef |>.set 19 undef |>.set 20 (.bool false) |>.set 21 (.bool false) |>.set 22 undef |>.set 23 undef |>.set 24 undef |>.set 25 undef |>.set 26 undef |>.set 27 undef |>.set 28 undef |>.set 29 undef |>.set 30 undef |>.set 31 undef |>.set 32 (.bool false) |>.set 4 (.bool false)) H := by kernel_rfl
theorem s135_4 : gOps Try.prog 1 call (opsAt (fAt Try.f135 [1,0])) (((opsAt (fAt Try.f135 [1,0])).drop 12).take 5) ((FF 33 d) |>.set 16 (.bool true)) H K' =
  onV (oFieldAddr Try.prog 29 (d 3) 1) fun v1 =>
  onV (gLoad Try.prog 3 v1 H) fun v2 =>
  onV ((oBin Try.prog .geq 3 v2 (.int .i64 0)).filter closed) fun v3 =>
  onGrd true v3 (K' ((FF 33 d) |>.set 16 (.bool true) |>.set 17 v1 |>.set 18 v2 |>.set 19 v3 |>.set 20 v3 |>.set 21 v3) H) := by kernel_rfl
theorem s135_5 : gOps Try.prog 1 call (opsAt (fAt Try.f135 [1,0])) ((opsAt (fAt Try.f135 [1,0])).drop 12) ((FF 33 d) |>.set 16 (.bool false)) H K' =
  K' ((FF 33 d) |>.set 16 (.bool false) |>.set 17 undef |>.set 18 undef |>.set 19 undef |>.set 20 (.bool false) |>.set 21 (.bool false) |>.set 22 undef |>.set 23 undef |>.set 24 undef |>.set 25 undef |>.set 26 undef |>.set 27 undef |>.set 28 undef |>.set 29 undef |>.set 30 undef |>.set 31 undef |>.set 32 (.bool false) |>.set 4 (.bool false)) H := by kernel_rfl
theorem s135_6 : gOps Try.prog 1 call (opsAt (fAt Try.f135 [1,0])) ((opsAt (fAt Try.f135 [1,0])).drop 17) ((FF 33 d) |>.set 21 (.bool true)) H K' =
  onV (oFieldAddr Try.prog 29 (d 3) 1) fun v1 =>
  onV (gLoad Try.prog 3 v1 H) fun v2 =>
  onV (oFieldAddr Try.prog 29 (d 3) 0) fun v3 =>
  onV (gLoad Try.prog 5 v3 H) fun v4 =>
  onV ((oBin Try.prog .sub 5 v4 (.int .u8 1)).filter closed) fun v5 =>
  onV (oIndexAddr Try.prog 58 (d 0) v5) fun v6 =>
  onV (gLoad Try.prog 59 v6 H) fun v7 =>
  onV (oLen Try.prog 59 v7) fun v8 =>
  onV ((oBin Try.prog .lss 3 v2 v8).filter closed) fun v9 =>
  K' ((FF 33 d) |>.set 21 (.bool true) |>.set 22 v1 |>.set 23 v2 |>.set 24 (d 0) |>.set 25 v3 |>.set 26 v4 |>.set 27 v5 |>.set 28 v6 |>.set 29 v7 |>.set 30 v8 |>.set 31 v9 |>.set 32 v9 |>.set 4 v9) H := by kernel_rfl
theorem s135_7 : gOps Try.prog 1 call (opsAt (fAt Try.f135 [1,0])) ((opsAt (fAt Try.f135 [1,0])).drop 17) ((FF 33 d) |>.set 21 (.bool false)) H K' =
  K' ((FF 33 d) |>.set 21 (.bool false) |>.set 22 undef |>.set 23 undef |>.set 24 undef |>.set 25 undef |>.set 26 undef |>.set 27 undef |>.set 28 undef |>.set 29 undef |>.set 30 undef |>.set 31 undef |>.set 32 (.bool false) |>.set 4 (.bool false)) H := by kernel_rfl
noncomputable def f135_g1_17 (call : Handle) (k : Nat) (x21 : Value) (x0 x3 : Value) (H : GH) : M (Value × GH) :=
 onBool (asB x21)
  (onV (oFieldAddr Try.prog 29 x3 1) fun v1 =>
  onV (gLoad Try.prog 3 v1 H) fun v2 =>
  onV (oFieldAddr Try.prog 29 x3 0) fun v3 =>
  onV (gLoad Try.prog 5 v3 H) fun v4 =>
  onV ((oBin Try.prog .sub 5 v4 (.int .u8 1)).filter closed) fun v5 =>
  onV (oIndexAddr Try.prog 58 x0 v5) fun v6 =>
  onV (gLoad Try.prog 59 v6 H) fun v7 =>
  onV (oLen Try.prog 59 v7) fun v8 =>
  onV ((oBin Try.prog .lss 3 v2 v8).filter closed) fun v9 =>
  some [(v9, H)])
  (some [((.bool false), H)])
theorem f135_g1_17_true (call : Handle) (k : Nat) : gOps Try.prog 1 call (opsAt (fAt Try.f135 [1,0])) ((opsAt (fAt Try.f135 [1,0])).drop 17) ((FF 33 d) |>.set 21 (.bool true)) H ((hSeq (gCode Try.prog call k (fAt Try.f135 [1,1])) (hFin Try.prog Try.f135)) .normal) =
  onV (oFieldAddr Try.prog 29 (d 3) 1) fun v1 =>
  onV (gLoad Try.prog 3 v1 H) fun v2 =>
  onV (oFieldAddr Try.prog 29 (d 3) 0) fun v3 =>
  onV (gLoad Try.prog 5 v3 H) fun v4 =>
  onV ((oBin Try.prog .sub 5 v4 (.int .u8 1)).filter closed) fun v5 =>
  onV (oIndexAddr Try.prog 58 (d 0) v5) fun v6 =>
  onV (gLoad Try.prog 59 v6 H) fun v7 =>
  onV (oLen Try.prog 59 v7) fun v8 =>
  onV ((oBin Try.prog .lss 3 v2 v8).filter closed) fun v9 =>
  some [(v9, H)] := by
  rw [s135_6]
  refine onV_c fun v1 => ?_
  refine onV_c fun v2 => ?_
  refine onV_c fun v3 => ?_
  refine onV_c fun v4 => ?_
  refine onV_c fun v5 => ?_
  refine onV_c fun v6 => ?_
  refine onV_c fun v7 => ?_
  refine onV_c fun v8 => ?_
  refine onV_c fun v9 => ?_
  rw [hSeq_n]
  rw [n135_4]
  kernel_rfl
theorem f135_g1_17_false (call : Handle) (k : Nat) : gOps Try.prog 1 call (opsAt (fAt Try.f135 [1,0])) ((opsAt (fAt Try.f135 [1,0])).drop 17) ((FF 33 d) |>.set 21 (.bool false)) H ((hSeq (gCode Try.prog call k (fAt Try.f135 [1,1])) (hFin Try.prog Try.f135)) .normal) =
  some [((.bool false), H)] := by
  rw [s135_7]
  rw [hSeq_n]
  rw [n135_4]
  kernel_rfl
theorem f135_g1_17_eq (call : Handle) (k : Nat) : onGrd true xg (gOps Try.prog 1 call (opsAt (fAt Try.f135 [1,0])) ((opsAt (fAt Try.f135 [1,0])).drop 17) ((FF 33 d) |>.set 21 xg) H ((hSeq (gCode Try.prog call k (fAt Try.f135 [1,1])) (hFin Try.prog Try.f135)) .normal)) =
  f135_g1_17 call k xg (d 0) (d 3) H := by
  cases xg with
  | bool b => cases b with
    | true => exact onGrd_b.trans (f135_g1_17_true call k)
    | false => exact onGrd_b.trans (f135_g1_17_false call k)
  | _ => kernel_rfl
noncomputable def f135_g1_12 (call : Handle) (k : Nat) (x16 : Value) (x0 x3 : Value) (H : GH) : M (Value × GH) :=
 onBool (asB x16)
  (onV (oFieldAddr Try.prog 29 x3 1) fun v1 =>
  onV (gLoad Try.prog 3 v1 H) fun v2 =>
  onV ((oBin Try.prog .geq 3 v2 (.int .i64 0)).filter closed) fun v3 =>
  (f135_g1_17 call k v3 x0 x3 H))
  (some [((.bool false), H)])
theorem f135_g1_12_true (call : Handle) (k : Nat) : gOps Try.prog 1 call (opsAt (fAt Try.f135 [1,0])) ((opsAt (fAt Try.f135 [1,0])).drop 12) ((FF 33 d) |>.set 16 (.bool true)) H ((hSeq (gCode Try.prog call k (fAt Try.f135 [1,1])) (hFin Try.prog Try.f135)) .normal) =
  onV (oFieldAddr Try.prog 29 (d 3) 1) fun v1 =>
  onV (gLoad Try.prog 3 v1 H) fun v2 =>
  onV ((oBin Try.prog .geq 3 v2 (.int .i64 0)).filter closed) fun v3 =>
  (f135_g1_17 call k v3 (d 0) (d 3) H) := by
  rw [gOps_split 12 5, s135_4]
  refine onV_c fun v1 => ?_
  refine onV_c fun v2 => ?_
  refine onV_c fun v3 => ?_
  rw [show ((FF 33 d) |>.set 16 (.bool true) |>.set 17 v1 |>.set 18 v2 |>.set 19 v3 |>.set 20 v3 |>.set 21 v3) = ((FF 33 (gf ((FF 33 d) |>.set 16 (.bool true) |>.set 17 v1 |>.set 18 v2 |>.set 19 v3 |>.set 20 v3 |>.set 21 v3))) |>.set 21 v3) from by kernel_rfl]
  exact (f135_g1_17_eq (d := gf ((FF 33 d) |>.set 16 (.bool true) |>.set 17 v1 |>.set 18 v2 |>.set 19 v3 |>.set 20 v3 |>.set 21 v3)) call k).trans (by kernel_rfl)
theorem f135_g1_12_false (call : Handle) (k : Nat) : gOps Try.prog 1 call (opsAt (fAt Try.f135 [1,0])) ((opsAt (fAt Try.f135 [1,0])).drop 12) ((FF 33 d) |>.set 16 (.bool false)) H ((hSeq (gCode Try.prog call k (fAt Try.f135 [1,1])) (hFin Try.prog Try.f135)) .normal) =
  some [((.bool false), H)] := by
  rw [s135_5]
  rw [hSeq_n]
  rw [n135_4]
  kernel_rfl
theorem f135_g1_12_eq (call : Handle) (k : Nat) : onGrd true xg (gOps Try.prog 1 call (opsAt (fAt Try.f135 [1,0])) ((opsAt (fAt Try.f135 [1,0])).drop 12) ((FF 33 d) |>.set 16 xg) H ((hSeq (gCode Try.prog call k (fAt Try.f135 [1,1])) (hFin Try.prog Try.f135)) .normal)) =
  f135_g1_12 call k xg (d 0) (d 3) H := by
  cases xg with
  | bool b => cases b with
    | true => exact onGrd_b.trans (f135_g1_12_true call k)
    | false => exact onGrd_b.trans (f135_g1_12_false call k)
  | _ => kernel_rfl
noncomputable def f135_g1_4 (call : Handle) (k : Nat) (x8 : Value) (x0 x3 : Value) (H : GH) : M (Value × GH) :=
 onBool (asB x8)
  (onV (oFieldAddr Try.prog 29 x3 0) fun v1 =>
  onV (gLoad Try.prog 5 v1 H) fun v2 =>
  onV ((oConvert Try.prog 5 3 v2).filter closed) fun v3 =>
  onV (oLen Try.prog 58 x0) fun v4 =>
  onV ((oBin Try.prog .leq 3 v3 v4).filter closed) fun v5 =>
  (f135_g1_12 call k v5 x0 x3 H))
  (some [((.bool false), H)])
theorem f135_g1_4_true (call : Handle) (k : Nat) : gOps Try.prog 1 call (opsAt (fAt Try.f135 [1,0])) ((opsAt (fAt Try.f135 [1,0])).drop 4) ((FF 33 d) |>.set 8 (.bool true)) H ((hSeq (gCode Try.prog call k (fAt Try.f135 [1,1])) (hFin Try.prog Try.f135)) .normal) =
  onV (oFieldAddr Try.prog 29 (d 3) 0) fun v1 =>
  onV (gLoad Try.prog 5 v1 H) fun v2 =>
  onV ((oConvert Try.prog 5 3 v2).filter closed) fun v3 =>
  onV (oLen Try.prog 58 (d 0)) fun v4 =>
  onV ((oBin Try.prog .leq 3 v3 v4).filter closed) fun v5 =>
  (f135_g1_12 call k v5 (d 0) (d 3) H) := by
  rw [gOps_split 4 8, s135_2]
  refine onV_c fun v1 => ?_
  refine onV_c fun v2 => ?_
  refine onV_c fun v3 => ?_
  refine onV_c fun v4 => ?_
  refine onV_c fun v5 => ?_
  rw [show ((FF 33 d) |>.set 8 (.bool true) |>.set 9 v1 |>.set 10 v2 |>.set 11 v3 |>.set 12 (d 0) |>.set 13 v4 |>.set 14 v5 |>.set 15 v5 |>.set 16 v5) = ((FF 33 (gf ((FF 33 d) |>.set 8 (.bool true) |>.set 9 v1 |>.set 10 v2 |>.set 11 v3 |>.set 12 (d 0) |>.set 13 v4 |>.set 14 v5 |>.set 15 v5 |>.set 16 v5))) |>.set 16 v5) from by kernel_rfl]
  exact (f135_g1_12_eq (d := gf ((FF 33 d) |>.set 8 (.bool true) |>.set 9 v1 |>.set 10 v2 |>.set 11 v3 |>.set 12 (d 0) |>.set 13 v4 |>.set 14 v5 |>.set 15 v5 |>.set 16 v5)) call k).trans (by kernel_rfl)
theorem f135_g1_4_false (call : Handle) (k : Nat) : gOps Try.prog 1 call (opsAt (fAt Try.f135 [1,0])) ((opsAt (fAt Try.f135 [1,0])).drop 4) ((FF 33 d) |>.set 8 (.bool false)) H ((hSeq (gCode Try.prog call k (fAt Try.f135 [1,1])) (hFin Try.prog Try.f135)) .normal) =
  some [((.bool false), H)] := by
  rw [s135_3]
  rw [hSeq_n]
  rw [n135_4]
  kernel_rfl
theorem f135_g1_4_eq (call : Handle) (k : Nat) : onGrd true xg (gOps Try.prog 1 call (opsAt (fAt Try.f135 [1,0])) ((opsAt (fAt Try.f135 [1,0])).drop 4) ((FF 33 d) |>.set 8 xg) H ((hSeq (gCode Try.prog call k (fAt Try.f135 [1,1])) (hFin Try.prog Try.f135)) .normal)) =
  f135_g1_4 call k xg (d 0) (d 3) H := by
  cases xg with
  | bool b => cases b with
    | true => exact onGrd_b.trans (f135_g1_4_true call k)
    | false => exact onGrd_b.trans (f135_g1_4_false call k)
  | _ => kernel_rfl
noncomputable def f135_r1 (call : Handle) (k : Nat) (x0 x3 : Value) (H : GH) : M (Value × GH) :=
  onV (oFieldAddr Try.prog 29 x3 0) fun v1 =>
  onV (gLoad Try.prog 5 v1 H) fun v2 =>
  onV ((oBin Try.prog .geq 5 v2 (.int .u8 1)).filter closed) fun v3 =>
  (f135_g1_4 call k v3 x0 x3 H)
theorem f135_r1_eq (call : Handle) (k : Nat) : gCode Try.prog call k (fAt Try.f135 [1,0]) (FF 33 d) H (hSeq (gCode Try.prog call k (fAt Try.f135 [1,1])) (hFin Try.prog Try.f135)) = f135_r1 call k (d 0) (d 3) H := by
  unfold f135_r1
  rw [n135_3]
  rw [gOps_split 0 4, s135_1]
  refine onV_c fun v1 => ?_
  refine onV_c fun v2 => ?_
  refine onV_c fun v3 => ?_
  rw [show ((FF 33 d) |>.set 5 v1 |>.set 6 v2 |>.set 7 v3 |>.set 8 v3) = ((FF 33 (gf ((FF 33 d) |>.set 5 v1 |>.set 6 v2 |>.set 7 v3 |>.set 8 v3))) |>.set 8 v3) from by kernel_rfl]
  exact (f135_g1_4_eq (d := gf ((FF 33 d) |>.set 5 v1 |>.set 6 v2 |>.set 7 v3 |>.set 8 v3)) call k).trans (by kernel_rfl)
noncomputable def f135_sh (call : Handle) (k : Nat) (p0 p1 : Value) (H : GH) : M (Value × GH) :=
  (f135_r1 call k p0 (.pointer (some ⟨H.n, 0, none⟩)) (GH.push H (.row (Value.cells p1).toList 29 false)))
theorem f135_run (call : Handle) (k : Nat) (p0 p1 : Value) (H : GH) : gCode Try.prog call k (fAt Try.f135 []) ((FF 33 fun _ => undef) |>.set 0 p0 |>.set 1 p1) H (hFin Try.prog Try.f135) = f135_sh call k p0 p1 H := by
  unfold f135_sh
  rw [n135_0]
  rw [n135_1]
  rw [s135_0]
  rw [hSeq_n]
  rw [n135_2]
  rw [show ((FF 33 fun _ => undef) |>.set 0 p0 |>.set 1 p1 |>.set 3 (.pointer (some ⟨H.n, 0, none⟩)) |>.set 4 (.bool false)) = (FF 33 (gf ((FF 33 fun _ => undef) |>.set 0 p0 |>.set 1 p1 |>.set 3 (.pointer (some ⟨H.n, 0, none⟩)) |>.set 4 (.bool false)))) from by kernel_rfl]
  exact (f135_r1_eq (d := gf ((FF 33 fun _ => undef) |>.set 0 p0 |>.set 1 p1 |>.set 3 (.pointer (some ⟨H.n, 0, none⟩)) |>.set 4 (.bool false))) call k).trans (by kernel_rfl)
theorem f135_eq (call : Handle) (k : Nat) (p0 p1 : Value) (H : GH) : gFunc Try.prog call k Try.f135 [p0, p1] H = f135_sh call k p0 p1 H :=
  Eq.trans (by kernel_rfl) (f135_run call k p0 p1 H)
end
section
variable {β : Type} {call : Handle} {k : Nat} {a : GA} {K : Kont β} {K' : GA → GH → M β}
variable {d : Nat → Value} {xg : Value}
variable {p0 p1 p2 : Value}
variable {H : GH}
theorem n139_0 : gCode Try.prog call k (fAt Try.f139 []) a H K = gCode Try.prog call k (fAt Try.f139 [0]) a H (hSeq (gCode Try.prog call k (fAt Try.f139 [1])) K) := at_seq (by kernel_rfl)
theorem n139_1 : gCode Try.prog call k (fAt Try.f139 [0]) a H K = gOps Try.prog 0 call (opsAt (fAt Try.f139 [0])) ((opsAt (fAt Try.f139 [0])).drop 0) a H (K .normal) := at_region (by kernel_rfl)
theorem n139_2 : gCode Try.prog call k (fAt Try.f139 [1]) a H K = gCode Try.prog call k (fAt Try.f139 [1,0]) a H (hSeq (gCode Try.prog call k (fAt Try.f139 [1,1])) K) := at_seq (by kernel_rfl)
theorem n139_3 : gCode Try.prog call k (fAt Try.f139 [1,0]) a H K = gOps Try.prog 1 call (opsAt (fAt Try.f139 [1,0])) ((opsAt (fAt Try.f139 [1,0])).drop 0) a H (K .normal) := at_region (by kernel_rfl)
theorem n139_4 : gCode Try.prog call k (fAt Try.f139 [1,1]) a H K = K .ret a H := at_ret (by kernel_rfl)
theorem s139_0 : gOps Try.prog 0 call (opsAt (fAt Try.f139 [0])) ((opsAt (fAt Try.f139 [0])).drop 0) ((FF 22 fun _ => undef) |>.set 0 p0 |>.set 1 p1 |>.set 2 p2) H K' =
  K' ((FF 22 fun _ => undef) |>.set 0 p0 |>.set 1 p1 |>.set 2 p2 |>.set 3 (.pointer (some ⟨H.n, 0, none⟩)) |>.set 4 (.bool false)) (GH.push H (.row (Value.cells p0).toList 29 false)) := by kernel_rfl
theorem s139_1 : gOps Try.prog 1 call (opsAt (fAt Try.f139 [1,0])) (((opsAt (fAt Try.f139 [1,0])).drop 0).take 7) (FF 22 d) H K' =
  onV (oFieldAddr Try.prog 29 (d 3) 0) fun v1 =>
  onV (gLoad Try.prog 5 v1 H) fun v2 =>
  onV ((oConvert Try.prog 5 3 v2).filter closed) fun v3 =>
  onV (gLoad Try.prog 58 (d 1) H) fun v4 =>
  onV (oLen Try.prog 58 v4) fun v5 =>
  onV ((oBin Try.prog .leq 3 v3 v5).filter closed) fun v6 =>
  onGrd true v6 (K' ((FF 22 d) |>.set 5 v1 |>.set 6 v2 |>.set 7 v3 |>.set 8 v4 |>.set 9 v5 |>.set 10 v6 |>.set 11 v6) H) := by kernel_rfl
theorem s139_2 : gOps Try.prog 1 call (opsAt (fAt Try.f139 [1,0])) ((opsAt (fAt Try.f139 [1,0])).drop 7) ((FF 22 d) |>.set 11 (.bool true)) H K' =
  onV (oFieldAddr Try.prog 29 (d 3) 1) fun v1 =>
  onV (gLoad Try.prog 3 v1 H) fun v2 =>
  onV (gLoad Try.prog 71 (d 2) H) fun v3 =>
  onV (oFieldAddr Try.prog 29 (d 3) 0) fun v4 =>
  onV (gLoad Try.prog 5 v4 H) fun v5 =>
  onV ((oBin Try.prog .sub 5 v5 (.int .u8 1)).filter closed) fun v6 =>
  onV (oIndexAddr Try.prog 71 v3 v6) fun v7 =>
  onV (gLoad Try.prog 3 v7 H) fun v8 =>
  onV ((oBin Try.prog .lss 3 v2 v8).filter closed) fun v9 =>
  K' ((FF 22 d) |>.set 11 (.bool true) |>.set 12 v1 |>.set 13 v2 |>.set 14 v3 |>.set 15 v4 |>.set 16 v5 |>.set 17 v6 |>.set 18 v7 |>.set 19 v8 |>.set 20 v9 |>.set 21 v9 |>.set 4 v9) H := by kernel_rfl
theorem s139_3 : gOps Try.prog 1 call (opsAt (fAt Try.f139 [1,0])) ((opsAt (fAt Try.f139 [1,0])).drop 7) ((FF 22 d) |>.set 11 (.bool false)) H K' =
  K' ((FF 22 d) |>.set 11 (.bool false) |>.set 12 undef |>.set 13 undef |>.set 14 undef |>.set 15 undef |>.set 16 undef |>.set 17 undef |>.set 18 undef |>.set 19 undef |>.set 20 undef |>.set 21 (.bool false) |>.set 4 (.bool false)) H := by kernel_rfl
noncomputable def f139_g1_7 (call : Handle) (k : Nat) (x11 : Value) (x2 x3 : Value) (H : GH) : M (Value × GH) :=
 onBool (asB x11)
  (onV (oFieldAddr Try.prog 29 x3 1) fun v1 =>
  onV (gLoad Try.prog 3 v1 H) fun v2 =>
  onV (gLoad Try.prog 71 x2 H) fun v3 =>
  onV (oFieldAddr Try.prog 29 x3 0) fun v4 =>
  onV (gLoad Try.prog 5 v4 H) fun v5 =>
  onV ((oBin Try.prog .sub 5 v5 (.int .u8 1)).filter closed) fun v6 =>
  onV (oIndexAddr Try.prog 71 v3 v6) fun v7 =>
  onV (gLoad Try.prog 3 v7 H) fun v8 =>
  onV ((oBin Try.prog .lss 3 v2 v8).filter closed) fun v9 =>
  some [(v9, H)])
  (some [((.bool false), H)])
theorem f139_g1_7_true (call : Handle) (k : Nat) : gOps Try.prog 1 call (opsAt (fAt Try.f139 [1,0])) ((opsAt (fAt Try.f139 [1,0])).drop 7) ((FF 22 d) |>.set 11 (.bool true)) H ((hSeq (gCode Try.prog call k (fAt Try.f139 [1,1])) (hFin Try.prog Try.f139)) .normal) =
  onV (oFieldAddr Try.prog 29 (d 3) 1) fun v1 =>
  onV (gLoad Try.prog 3 v1 H) fun v2 =>
  onV (gLoad Try.prog 71 (d 2) H) fun v3 =>
  onV (oFieldAddr Try.prog 29 (d 3) 0) fun v4 =>
  onV (gLoad Try.prog 5 v4 H) fun v5 =>
  onV ((oBin Try.prog .sub 5 v5 (.int .u8 1)).filter closed) fun v6 =>
  onV (oIndexAddr Try.prog 71 v3 v6) fun v7 =>
  onV (gLoad Try.prog 3 v7 H) fun v8 =>
  onV ((oBin Try.prog .lss 3 v2 v8).filter closed) fun v9 =>
  some [(v9, H)] := by
  rw [s139_2]
  refine onV_c fun v1 => ?_
  refine onV_c fun v2 => ?_
  refine onV_c fun v3 => ?_
  refine onV_c fun v4 => ?_
  refine onV_c fun v5 => ?_
  refine onV_c fun v6 => ?_
  refine onV_c fun v7 => ?_
  refine onV_c fun v8 => ?_
  refine onV_c fun v9 => ?_
  rw [hSeq_n]
  rw [n139_4]
  kernel_rfl
theorem f139_g1_7_false (call : Handle) (k : Nat) : gOps Try.prog 1 call (opsAt (fAt Try.f139 [1,0])) ((opsAt (fAt Try.f139 [1,0])).drop 7) ((FF 22 d) |>.set 11 (.bool false)) H ((hSeq (gCode Try.prog call k (fAt Try.f139 [1,1])) (hFin Try.prog Try.f139)) .normal) =
  some [((.bool false), H)] := by
  rw [s139_3]
  rw [hSeq_n]
  rw [n139_4]
  kernel_rfl
theorem f139_g1_7_eq (call : Handle) (k : Nat) : onGrd true xg (gOps Try.prog 1 call (opsAt (fAt Try.f139 [1,0])) ((opsAt (fAt Try.f139 [1,0])).drop 7) ((FF 22 d) |>.set 11 xg) H ((hSeq (gCode Try.prog call k (fAt Try.f139 [1,1])) (hFin Try.prog Try.f139)) .normal)) =
  f139_g1_7 call k xg (d 2) (d 3) H := by
  cases xg with
  | bool b => cases b with
    | true => exact onGrd_b.trans (f139_g1_7_true call k)
    | false => exact onGrd_b.trans (f139_g1_7_false call k)
  | _ => kernel_rfl
noncomputable def f139_r1 (call : Handle) (k : Nat) (x1 x2 x3 : Value) (H : GH) : M (Value × GH) :=
  onV (oFieldAddr Try.prog 29 x3 0) fun v1 =>
  onV (gLoad Try.prog 5 v1 H) fun v2 =>
  onV ((oConvert Try.prog 5 3 v2).filter closed) fun v3 =>
  onV (gLoad Try.prog 58 x1 H) fun v4 =>
  onV (oLen Try.prog 58 v4) fun v5 =>
  onV ((oBin Try.prog .leq 3 v3 v5).filter closed) fun v6 =>
  (f139_g1_7 call k v6 x2 x3 H)
theorem f139_r1_eq (call : Handle) (k : Nat) : gCode Try.prog call k (fAt Try.f139 [1,0]) (FF 22 d) H (hSeq (gCode Try.prog call k (fAt Try.f139 [1,1])) (hFin Try.prog Try.f139)) = f139_r1 call k (d 1) (d 2) (d 3) H := by
  unfold f139_r1
  rw [n139_3]
  rw [gOps_split 0 7, s139_1]
  refine onV_c fun v1 => ?_
  refine onV_c fun v2 => ?_
  refine onV_c fun v3 => ?_
  refine onV_c fun v4 => ?_
  refine onV_c fun v5 => ?_
  refine onV_c fun v6 => ?_
  rw [show ((FF 22 d) |>.set 5 v1 |>.set 6 v2 |>.set 7 v3 |>.set 8 v4 |>.set 9 v5 |>.set 10 v6 |>.set 11 v6) = ((FF 22 (gf ((FF 22 d) |>.set 5 v1 |>.set 6 v2 |>.set 7 v3 |>.set 8 v4 |>.set 9 v5 |>.set 10 v6 |>.set 11 v6))) |>.set 11 v6) from by kernel_rfl]
  exact (f139_g1_7_eq (d := gf ((FF 22 d) |>.set 5 v1 |>.set 6 v2 |>.set 7 v3 |>.set 8 v4 |>.set 9 v5 |>.set 10 v6 |>.set 11 v6)) call k).trans (by kernel_rfl)
noncomputable def f139_sh (call : Handle) (k : Nat) (p0 p1 p2 : Value) (H : GH) : M (Value × GH) :=
  (f139_r1 call k p1 p2 (.pointer (some ⟨H.n, 0, none⟩)) (GH.push H (.row (Value.cells p0).toList 29 false)))
theorem f139_run (call : Handle) (k : Nat) (p0 p1 p2 : Value) (H : GH) : gCode Try.prog call k (fAt Try.f139 []) ((FF 22 fun _ => undef) |>.set 0 p0 |>.set 1 p1 |>.set 2 p2) H (hFin Try.prog Try.f139) = f139_sh call k p0 p1 p2 H := by
  unfold f139_sh
  rw [n139_0]
  rw [n139_1]
  rw [s139_0]
  rw [hSeq_n]
  rw [n139_2]
  rw [show ((FF 22 fun _ => undef) |>.set 0 p0 |>.set 1 p1 |>.set 2 p2 |>.set 3 (.pointer (some ⟨H.n, 0, none⟩)) |>.set 4 (.bool false)) = (FF 22 (gf ((FF 22 fun _ => undef) |>.set 0 p0 |>.set 1 p1 |>.set 2 p2 |>.set 3 (.pointer (some ⟨H.n, 0, none⟩)) |>.set 4 (.bool false)))) from by kernel_rfl]
  exact (f139_r1_eq (d := gf ((FF 22 fun _ => undef) |>.set 0 p0 |>.set 1 p1 |>.set 2 p2 |>.set 3 (.pointer (some ⟨H.n, 0, none⟩)) |>.set 4 (.bool false))) call k).trans (by kernel_rfl)
theorem f139_eq (call : Handle) (k : Nat) (p0 p1 p2 : Value) (H : GH) : gFunc Try.prog call k Try.f139 [p0, p1, p2] H = f139_sh call k p0 p1 p2 H :=
  Eq.trans (by kernel_rfl) (f139_run call k p0 p1 p2 H)
end
section
variable {β : Type} {call : Handle} {k : Nat} {a : GA} {K : Kont β} {K' : GA → GH → M β}
variable {d : Nat → Value} {xg : Value}
variable {p0 p1 : Value}
variable {H : GH}
theorem n140_0 : gCode Try.prog call k (fAt Try.f140 []) a H K = gCode Try.prog call k (fAt Try.f140 [0]) a H (hSeq (gCode Try.prog call k (fAt Try.f140 [1])) K) := at_seq (by kernel_rfl)
theorem n140_1 : gCode Try.prog call k (fAt Try.f140 [0]) a H K = gOps Try.prog 0 call (opsAt (fAt Try.f140 [0])) ((opsAt (fAt Try.f140 [0])).drop 0) a H (K .normal) := at_region (by kernel_rfl)
theorem n140_2 : gCode Try.prog call k (fAt Try.f140 [1]) a H K = gCode Try.prog call k (fAt Try.f140 [1,0]) a H (hSeq (gCode Try.prog call k (fAt Try.f140 [1,1])) K) := at_seq (by kernel_rfl)
theorem n140_3 : gCode Try.prog call k (fAt Try.f140 [1,0]) a H K = gOps Try.prog 0 call (opsAt (fAt Try.f140 [1,0])) ((opsAt (fAt Try.f140 [1,0])).drop 0) a H (K .normal) := at_region (by kernel_rfl)
theorem n140_4 : gCode Try.prog call k (fAt Try.f140 [1,1]) a H K = K .ret a H := at_ret (by kernel_rfl)
theorem s140_0 : gOps Try.prog 0 call (opsAt (fAt Try.f140 [0])) ((opsAt (fAt Try.f140 [0])).drop 0) ((FF 8 fun _ => undef) |>.set 0 p0 |>.set 1 p1) H K' =
  K' ((FF 8 fun _ => undef) |>.set 0 p0 |>.set 1 p1 |>.set 2 (.pointer (some ⟨H.n, 0, none⟩)) |>.set 3 (.bool false)) (GH.push H (.row (Value.cells p0).toList 29 false)) := by kernel_rfl
theorem s140_1 : gOps Try.prog 0 call (opsAt (fAt Try.f140 [1,0])) ((opsAt (fAt Try.f140 [1,0])).drop 0) ((FF 8 fun _ => undef) |>.set 0 p0 |>.set 1 p1 |>.set 2 (.pointer (some ⟨H.n, 0, none⟩)) |>.set 3 (.bool false)) (GH.push H (.row (Value.cells p0).toList 29 false)) K' =
  onV (gLoad Try.prog 113 p1 (GH.push H (.row (Value.cells p0).toList 29 false))) fun v1 =>
  onV (gLoad Try.prog 29 (.pointer (some ⟨H.n, 0, none⟩)) (GH.push H (.row (Value.cells p0).toList 29 false))) fun v2 =>
  onCall 0 call v1 [v2] (GH.push H (.row (Value.cells p0).toList 29 false)) fun v3 H4 =>
  onV ((oUn Try.prog .not v3).filter closed) fun v5 =>
  K' ((FF 8 fun _ => undef) |>.set 0 p0 |>.set 1 p1 |>.set 2 (.pointer (some ⟨H.n, 0, none⟩)) |>.set 3 (.bool false) |>.set 4 v1 |>.set 5 v2 |>.set 6 v3 |>.set 7 v5 |>.set 3 v5) H4 := by kernel_rfl
noncomputable def f140_sh (call : Handle) (k : Nat) (p0 p1 : Value) (H : GH) : M (Value × GH) :=
  onV (gLoad Try.prog 113 p1 (GH.push H (.row (Value.cells p0).toList 29 false))) fun v1 =>
  onV (gLoad Try.prog 29 (.pointer (some ⟨H.n, 0, none⟩)) (GH.push H (.row (Value.cells p0).toList 29 false))) fun v2 =>
  onCall 0 call v1 [v2] (GH.push H (.row (Value.cells p0).toList 29 false)) fun v3 H4 =>
  onV ((oUn Try.prog .not v3).filter closed) fun v5 =>
  some [(v5, H4)]
theorem f140_run (call : Handle) (k : Nat) (p0 p1 : Value) (H : GH) : gCode Try.prog call k (fAt Try.f140 []) ((FF 8 fun _ => undef) |>.set 0 p0 |>.set 1 p1) H (hFin Try.prog Try.f140) = f140_sh call k p0 p1 H := by
  unfold f140_sh
  rw [n140_0]
  rw [n140_1]
  rw [s140_0]
  rw [hSeq_n]
  rw [n140_2]
  rw [n140_3]
  rw [s140_1]
  refine onV_c fun v1 => ?_
  refine onV_c fun v2 => ?_
  refine onCall_c fun v3 H4 => ?_
  refine onV_c fun v5 => ?_
  rw [hSeq_n]
  rw [n140_4]
  kernel_rfl
theorem f140_eq (call : Handle) (k : Nat) (p0 p1 : Value) (H : GH) : gFunc Try.prog call k Try.f140 [p0, p1] H = f140_sh call k p0 p1 H :=
  Eq.trans (by kernel_rfl) (f140_run call k p0 p1 H)
end
section
variable {β : Type} {call : Handle} {k : Nat} {a : GA} {K : Kont β} {K' : GA → GH → M β}
variable {d : Nat → Value} {xg : Value}
variable {p0 p1 : Value}
variable {H : GH}
theorem n141_0 : gCode Try.prog call k (fAt Try.f141 []) a H K = gCode Try.prog call k (fAt Try.f141 [0]) a H (hSeq (gCode Try.prog call k (fAt Try.f141 [1])) K) := at_seq (by kernel_rfl)
theorem n141_1 : gCode Try.prog call k (fAt Try.f141 [0]) a H K = gOps Try.prog 0 call (opsAt (fAt Try.f141 [0])) ((opsAt (fAt Try.f141 [0])).drop 0) a H (K .normal) := at_region (by kernel_rfl)
theorem n141_2 : gCode Try.prog call k (fAt Try.f141 [1]) a H K = gCode Try.prog call k (fAt Try.f141 [1,0]) a H (hSeq (gCode Try.prog call k (fAt Try.f141 [1,1])) K) := at_seq (by kernel_rfl)
theorem n141_3 : gCode Try.prog call k (fAt Try.f141 [1,0]) a H K = gOps Try.prog 0 call (opsAt (fAt Try.f141 [1,0])) ((opsAt (fAt Try.f141 [1,0])).drop 0) a H (K .normal) := at_region (by kernel_rfl)
theorem n141_4 : gCode Try.prog call k (fAt Try.f141 [1,1]) a H K = K .ret a H := at_ret (by kernel_rfl)
theorem s141_0 : gOps Try.prog 0 call (opsAt (fAt Try.f141 [0])) ((opsAt (fAt Try.f141 [0])).drop 0) ((FF 9 fun _ => undef) |>.set 0 p0 |>.set 1 p1) H K' =
  K' ((FF 9 fun _ => undef) |>.set 0 p0 |>.set 1 p1 |>.set 4 (.bool false)) H := by kernel_rfl
theorem s141_1 : gOps Try.prog 0 call (opsAt (fAt Try.f141 [1,0])) ((opsAt (fAt Try.f141 [1,0])).drop 0) ((FF 9 fun _ => undef) |>.set 0 p0 |>.set 1 p1 |>.set 4 (.bool false)) H K' =
  onCall 0 call (.func (.func 173) #[] #[]) [p0, p1] H fun v1 H2 =>
  onV ((oBin Try.prog .geq 3 v1 (.int .i64 0)).filter closed) fun v3 =>
  K' ((FF 9 fun _ => undef) |>.set 0 p0 |>.set 1 p1 |>.set 4 (.bool false) |>.set 5 p0 |>.set 6 p1 |>.set 7 v1 |>.set 8 v3 |>.set 4 v3) H2 := by kernel_rfl
noncomputable def f141_sh (call : Handle) (k : Nat) (p0 p1 : Value) (H : GH) : M (Value × GH) :=
  onCall 0 call (.func (.func 173) #[] #[]) [p0, p1] H fun v1 H2 =>
  onV ((oBin Try.prog .geq 3 v1 (.int .i64 0)).filter closed) fun v3 =>
  some [(v3, H2)]
theorem f141_run (call : Handle) (k : Nat) (p0 p1 : Value) (H : GH) : gCode Try.prog call k (fAt Try.f141 []) ((FF 9 fun _ => undef) |>.set 0 p0 |>.set 1 p1) H (hFin Try.prog Try.f141) = f141_sh call k p0 p1 H := by
  unfold f141_sh
  rw [n141_0]
  rw [n141_1]
  rw [s141_0]
  rw [hSeq_n]
  rw [n141_2]
  rw [n141_3]
  rw [s141_1]
  refine onCall_c fun v1 H2 => ?_
  refine onV_c fun v3 => ?_
  rw [hSeq_n]
  rw [n141_4]
  kernel_rfl
theorem f141_eq (call : Handle) (k : Nat) (p0 p1 : Value) (H : GH) : gFunc Try.prog call k Try.f141 [p0, p1] H = f141_sh call k p0 p1 H :=
  Eq.trans (by kernel_rfl) (f141_run call k p0 p1 H)
end
section
variable {β : Type} {call : Handle} {k : Nat} {a : GA} {K : Kont β} {K' : GA → GH → M β}
variable {d : Nat → Value} {xg : Value}
variable {p0 p1 : Value}
variable {H : GH}
theorem n142_0 : gCode Try.prog call k (fAt Try.f142 []) a H K = gCode Try.prog call k (fAt Try.f142 [0]) a H (hSeq (gCode Try.prog call k (fAt Try.f142 [1])) K) := at_seq (by kernel_rfl)
theorem n142_1 : gCode Try.prog call k (fAt Try.f142 [0]) a H K = gOps Try.prog 0 call (opsAt (fAt Try.f142 [0])) ((opsAt (fAt Try.f142 [0])).drop 0) a H (K .normal) := at_region (by kernel_rfl)
theorem n142_2 : gCode Try.prog call k (fAt Try.f142 [1]) a H K = gCode Try.prog call k (fAt Try.f142 [1,0]) a H (hSeq (gCode Try.prog call k (fAt Try.f142 [1,1])) K) := at_seq (by kernel_rfl)
theorem n142_3 : gCode Try.prog call k (fAt Try.f142 [1,0]) a H K = gOps Try.prog 0 call (opsAt (fAt Try.f142 [1,0])) ((opsAt (fAt Try.f142 [1,0])).drop 0) a H (K .normal) := at_region (by kernel_rfl)
theorem n142_4 : gCode Try.prog call k (fAt Try.f142 [1,1]) a H K = K .ret a H := at_ret (by kernel_rfl)
theorem s142_0 : gOps Try.prog 0 call (opsAt (fAt Try.f142 [0])) ((opsAt (fAt Try.f142 [0])).drop 0) ((FF 9 fun _ => undef) |>.set 0 p0 |>.set 1 p1) H K' =
  K' ((FF 9 fun _ => undef) |>.set 0 p0 |>.set 1 p1 |>.set 2 (.pointer (some ⟨H.n, 0, none⟩)) |>.set 3 (.bool false)) (GH.push H (.row (Value.cells p0).toList 157 false)) := by kernel_rfl
theorem s142_1 : gOps Try.prog 0 call (opsAt (fAt Try.f142 [1,0])) ((opsAt (fAt Try.f142 [1,0])).drop 0) ((FF 9 fun _ => undef) |>.set 0 p0 |>.set 1 p1 |>.set 2 (.pointer (some ⟨H.n, 0, none⟩)) |>.set 3 (.bool false)) (GH.push H (.row (Value.cells p0).toList 157 false)) K' =
  onV (gLoad Try.prog 113 p1 (GH.push H (.row (Value.cells p0).toList 157 false))) fun v1 =>
  onV (gLoad Try.prog 29 (.pointer (some ⟨H.n, 0, none⟩)) (GH.push H (.row (Value.cells p0).toList 157 false))) fun v2 =>
  onCall 0 call v1 [v2] (GH.push H (.row (Value.cells p0).toList 157 false)) fun v3 H4 =>
  onV ((oUn Try.prog .not v3).filter closed) fun v5 =>
  K' ((FF 9 fun _ => undef) |>.set 0 p0 |>.set 1 p1 |>.set 2 (.pointer (some ⟨H.n, 0, none⟩)) |>.set 3 (.bool false) |>.set 4 v1 |>.set 5 (.pointer (some ⟨H.n, 0, none⟩)) |>.set 6 v2 |>.set 7 v3 |>.set 8 v5 |>.set 3 v5) H4 := by kernel_rfl
noncomputable def f142_sh (call : Handle) (k : Nat) (p0 p1 : Value) (H : GH) : M (Value × GH) :=
  onV (gLoad Try.prog 113 p1 (GH.push H (.row (Value.cells p0).toList 157 false))) fun v1 =>
  onV (gLoad Try.prog 29 (.pointer (some ⟨H.n, 0, none⟩)) (GH.push H (.row (Value.cells p0).toList 157 false))) fun v2 =>
  onCall 0 call v1 [v2] (GH.push H (.row (Value.cells p0).toList 157 false)) fun v3 H4 =>
  onV ((oUn Try.prog .not v3).filter closed) fun v5 =>
  some [(v5, H4)]
theorem f142_run (call : Handle) (k : Nat) (p0 p1 : Value) (H : GH) : gCode Try.prog call k (fAt Try.f142 []) ((FF 9 fun _ => undef) |>.set 0 p0 |>.set 1 p1) H (hFin Try.prog Try.f142) = f142_sh call k p0 p1 H := by
  unfold f142_sh
  rw [n142_0]
  rw [n142_1]
  rw [s142_0]
  rw [hSeq_n]
  rw [n142_2]
  rw [n142_3]
  rw [s142_1]
  refine onV_c fun v1 => ?_
  refine onV_c fun v2 => ?_
  refine onCall_c fun v3 H4 => ?_
  refine onV_c fun v5 => ?_
  rw [hSeq_n]
  rw [n142_4]
  kernel_rfl
theorem f142_eq (call : Handle) (k : Nat) (p0 p1 : Value) (H : GH) : gFunc Try.prog call k Try.f142 [p0, p1] H = f142_sh call k p0 p1 H :=
  Eq.trans (by kernel_rfl) (f142_run call k p0 p1 H)
end
section
variable {β : Type} {call : Handle} {k : Nat} {a : GA} {K : Kont β} {K' : GA → GH → M β}
variable {d : Nat → Value} {xg : Value}
variable {p0 : Value}
variable {v1 v2 v3 v4 v5 v7 v8 v10 : Value}
variable {H H3 H4 H5 H11 : GH}
theorem n143_0 : gCode Try.prog call k (fAt Try.f143 []) a H K = gCode Try.prog call k (fAt Try.f143 [0]) a H (hSeq (gCode Try.prog call k (fAt Try.f143 [1])) K) := at_seq (by kernel_rfl)
theorem n143_1 : gCode Try.prog call k (fAt Try.f143 [0]) a H K = gOps Try.prog 0 call (opsAt (fAt Try.f143 [0])) ((opsAt (fAt Try.f143 [0])).drop 0) a H (K .normal) := at_region (by kernel_rfl)
theorem n143_2 : gCode Try.prog call k (fAt Try.f143 [1]) a H K = gCode Try.prog call k (fAt Try.f143 [1,0]) a H (hSeq (gCode Try.prog call k (fAt Try.f143 [1,1])) K) := at_seq (by kernel_rfl)
theorem n143_3 : gCode Try.prog call k (fAt Try.f143 [1,0]) a H K = gOps Try.prog 0 call (opsAt (fAt Try.f143 [1,0])) ((opsAt (fAt Try.f143 [1,0])).drop 0) a H (K .normal) := at_region (by kernel_rfl)
theorem n143_4 : gCode Try.prog call k (fAt Try.f143 [1,1]) a H K = gCode Try.prog call k (fAt Try.f143 [1,1,0]) a H (hSeq (gCode Try.prog call k (fAt Try.f143 [1,1,1])) K) := at_seq (by kernel_rfl)
theorem n143_5 : gCode Try.prog call k (fAt Try.f143 [1,1,0]) a H K = gCode Try.prog call k (fAt Try.f143 [1,1,0,0]) a H (hSeq (gCode Try.prog call k (fAt Try.f143 [1,1,0,1])) K) := at_seq (by kernel_rfl)
theorem n143_6 : gCode Try.prog call k (fAt Try.f143 [1,1,0,0]) a H K = gOps Try.prog 0 call (opsAt (fAt Try.f143 [1,1,0,0])) ((opsAt (fAt Try.f143 [1,1,0,0])).drop 0) a H (K .normal) := at_region (by kernel_rfl)
theorem n143_7 : gCode Try.prog call k (fAt Try.f143 [1,1,0,1]) a H K = gCode Try.prog call k (fAt Try.f143 [1,1,0,1,0]) a H (hBlock 0 K) := at_block (by kernel_rfl)
theorem n143_8 : gCode Try.prog call k (fAt Try.f143 [1,1,0,1,0]) a H K = gLoop (gCode Try.prog call k (fAt Try.f143 [1,1,0,1,0,0])) K k a H := at_loop (by kernel_rfl)
theorem n143_9 : gCode Try.prog call k (fAt Try.f143 [1,1,0,1,0,0]) a H K = gCode Try.prog call k (fAt Try.f143 [1,1,0,1,0,0,0]) a H (hSeq (gCode Try.prog call k (fAt Try.f143 [1,1,0,1,0,0,1])) K) := at_seq (by kernel_rfl)
theorem n143_10 : gCode Try.prog call k (fAt Try.f143 [1,1,0,1,0,0,0]) a H K = gOps Try.prog 0 call (opsAt (fAt Try.f143 [1,1,0,1,0,0,0])) ((opsAt (fAt Try.f143 [1,1,0,1,0,0,0])).drop 0) a H (K .normal) := at_region (by kernel_rfl)
theorem n143_11 : gCode Try.prog call k (fAt Try.f143 [1,1,0,1,0,0,1]) a H K = gCode Try.prog call k (fAt Try.f143 [1,1,0,1,0,0,1,0]) a H (hSeq (gCode Try.prog call k (fAt Try.f143 [1,1,0,1,0,0,1,1])) K) := at_seq (by kernel_rfl)
theorem n143_12 : gCode Try.prog call k (fAt Try.f143 [1,1,0,1,0,0,1,0]) a H K = onBool (asB (GA.eval a (.tmp 13))) (gCode Try.prog call k (fAt Try.f143 [1,1,0,1,0,0,1,0,0]) a H K) (gCode Try.prog call k (fAt Try.f143 [1,1,0,1,0,0,1,0,1]) a H K) := at_cond (by kernel_rfl)
theorem n143_13 : gCode Try.prog call k (fAt Try.f143 [1,1,0,1,0,0,1,0,0]) a H K = K .normal a H := at_skip (by kernel_rfl)
theorem n143_14 : gCode Try.prog call k (fAt Try.f143 [1,1,0,1,0,0,1,1]) a H K = gCode Try.prog call k (fAt Try.f143 [1,1,0,1,0,0,1,1,0]) a H (hSeq (gCode Try.prog call k (fAt Try.f143 [1,1,0,1,0,0,1,1,1])) K) := at_seq (by kernel_rfl)
theorem n143_15 : gCode Try.prog call k (fAt Try.f143 [1,1,0,1,0,0,1,1,0]) a H K = gCode Try.prog call k (fAt Try.f143 [1,1,0,1,0,0,1,1,0,0]) a H (hBlock 1 K) := at_block (by kernel_rfl)
theorem n143_16 : gCode Try.prog call k (fAt Try.f143 [1,1,0,1,0,0,1,1,0,0]) a H K = gCode Try.prog call k (fAt Try.f143 [1,1,0,1,0,0,1,1,0,0,0]) a H (hSeq (gCode Try.prog call k (fAt Try.f143 [1,1,0,1,0,0,1,1,0,0,1])) K) := at_seq (by kernel_rfl)
theorem n143_17 : gCode Try.prog call k (fAt Try.f143 [1,1,0,1,0,0,1,1,0,0,0]) a H K = gOps Try.prog 0 call (opsAt (fAt Try.f143 [1,1,0,1,0,0,1,1,0,0,0])) ((opsAt (fAt Try.f143 [1,1,0,1,0,0,1,1,0,0,0])).drop 0) a H (K .normal) := at_region (by kernel_rfl)
theorem n143_18 : gCode Try.prog call k (fAt Try.f143 [1,1,0,1,0,0,1,1,0,0,1]) a H K = gCode Try.prog call k (fAt Try.f143 [1,1,0,1,0,0,1,1,0,0,1,0]) a H (hSeq (gCode Try.prog call k (fAt Try.f143 [1,1,0,1,0,0,1,1,0,0,1,1])) K) := at_seq (by kernel_rfl)
theorem n143_19 : gCode Try.prog call k (fAt Try.f143 [1,1,0,1,0,0,1,1,0,0,1,0]) a H K = gOps Try.prog 0 call (opsAt (fAt Try.f143 [1,1,0,1,0,0,1,1,0,0,1,0])) ((opsAt (fAt Try.f143 [1,1,0,1,0,0,1,1,0,0,1,0])).drop 0) a H (K .normal) := at_region (by kernel_rfl)
theorem n143_20 : gCode Try.prog call k (fAt Try.f143 [1,1,0,1,0,0,1,1,0,0,1,1]) a H K = gCode Try.prog call k (fAt Try.f143 [1,1,0,1,0,0,1,1,0,0,1,1,0]) a H (hSeq (gCode Try.prog call k (fAt Try.f143 [1,1,0,1,0,0,1,1,0,0,1,1,1])) K) := at_seq (by kernel_rfl)
theorem n143_21 : gCode Try.prog call k (fAt Try.f143 [1,1,0,1,0,0,1,0,1]) a H K = K (.exit 0) a H := at_exit (by kernel_rfl)
theorem n143_22 : gCode Try.prog call k (fAt Try.f143 [1,1,0,1,0,0,1,1,0,0,1,1,0]) a H K = gOps Try.prog 2 call (opsAt (fAt Try.f143 [1,1,0,1,0,0,1,1,0,0,1,1,0])) ((opsAt (fAt Try.f143 [1,1,0,1,0,0,1,1,0,0,1,1,0])).drop 0) a H (K .normal) := at_region (by kernel_rfl)
theorem n143_23 : gCode Try.prog call k (fAt Try.f143 [1,1,1]) a H K = gCode Try.prog call k (fAt Try.f143 [1,1,1,0]) a H (hSeq (gCode Try.prog call k (fAt Try.f143 [1,1,1,1])) K) := at_seq (by kernel_rfl)
theorem n143_24 : gCode Try.prog call k (fAt Try.f143 [1,1,1,0]) a H K = gOps Try.prog 0 call (opsAt (fAt Try.f143 [1,1,1,0])) ((opsAt (fAt Try.f143 [1,1,1,0])).drop 0) a H (K .normal) := at_region (by kernel_rfl)
theorem n143_25 : gCode Try.prog call k (fAt Try.f143 [1,1,1,1]) a H K = K .ret a H := at_ret (by kernel_rfl)
theorem n143_26 : gCode Try.prog call k (fAt Try.f143 [1,1,0,1,0,0,1,1,0,0,1,1,1]) a H K = onBool (asB (GA.eval a (.tmp 34))) (gCode Try.prog call k (fAt Try.f143 [1,1,0,1,0,0,1,1,0,0,1,1,1,0]) a H K) (gCode Try.prog call k (fAt Try.f143 [1,1,0,1,0,0,1,1,0,0,1,1,1,1]) a H K) := at_cond (by kernel_rfl)
theorem n143_27 : gCode Try.prog call k (fAt Try.f143 [1,1,0,1,0,0,1,1,0,0,1,1,1,0]) a H K = gOps Try.prog 0 call (opsAt (fAt Try.f143 [1,1,0,1,0,0,1,1,0,0,1,1,1,0])) ((opsAt (fAt Try.f143 [1,1,0,1,0,0,1,1,0,0,1,1,1,0])).drop 0) a H (K .normal) := at_region (by kernel_rfl)
theorem n143_28 : gCode Try.prog call k (fAt Try.f143 [1,1,0,1,0,0,1,1,1]) a H K = gOps Try.prog 0 call (opsAt (fAt Try.f143 [1,1,0,1,0,0,1,1,1])) ((opsAt (fAt Try.f143 [1,1,0,1,0,0,1,1,1])).drop 0) a H (K .normal) := at_region (by kernel_rfl)
theorem n143_29 : gCode Try.prog call k (fAt Try.f143 [1,1,0,1,0,0,1,1,0,0,1,1,1,1]) a H K = gOps Try.prog 0 call (opsAt (fAt Try.f143 [1,1,0,1,0,0,1,1,0,0,1,1,1,1])) ((opsAt (fAt Try.f143 [1,1,0,1,0,0,1,1,0,0,1,1,1,1])).drop 0) a H (K .normal) := at_region (by kernel_rfl)
theorem s143_0 : gOps Try.prog 0 call (opsAt (fAt Try.f143 [0])) ((opsAt (fAt Try.f143 [0])).drop 0) ((FF 48 fun _ => undef) |>.set 0 p0) H K' =
  K' ((FF 48 fun _ => undef) |>.set 0 p0 |>.set 2 (.slice none 0 0)) H := by kernel_rfl
theorem s143_1 : gOps Try.prog 0 call (opsAt (fAt Try.f143 [1,0])) ((opsAt (fAt Try.f143 [1,0])).drop 0) ((FF 48 fun _ => undef) |>.set 0 p0 |>.set 2 (.slice none 0 0)) H K' =
  onV (oLen Try.prog 60 p0) fun v1 =>
  onVH (gMakeSlice Try.prog 60 (.int .i64 0) v1 H) fun v2 H3 =>
  K' ((FF 48 fun _ => undef) |>.set 0 p0 |>.set 2 (.slice none 0 0) |>.set 7 p0 |>.set 8 v1 |>.set 9 v2 |>.set 3 v2) H3 := by kernel_rfl
theorem s143_2 : gOps Try.prog 0 call (opsAt (fAt Try.f143 [1,1,0,0])) ((opsAt (fAt Try.f143 [1,1,0,0])).drop 0) ((FF 48 fun _ => undef) |>.set 0 p0 |>.set 2 (.slice none 0 0) |>.set 7 p0 |>.set 8 v1 |>.set 9 v2 |>.set 3 v2) H3 K' =
  onV (oLen Try.prog 60 p0) fun v4 =>
  K' ((FF 48 fun _ => undef) |>.set 0 p0 |>.set 2 (.slice none 0 0) |>.set 7 p0 |>.set 8 v1 |>.set 9 v2 |>.set 3 v2 |>.set 10 p0 |>.set 11 v4 |>.set 12 (.int .i64 0)) H3 := by kernel_rfl
theorem s143_3 : gOps Try.prog 0 call (opsAt (fAt Try.f143 [1,1,0,1,0,0,0])) ((opsAt (fAt Try.f143 [1,1,0,1,0,0,0])).drop 0) (FF 48 d) H K' =
  onV ((oBin Try.prog .lss 3 (d 12) (d 11)).filter closed) fun v1 =>
  K' ((FF 48 d) |>.set 13 v1) H := by kernel_rfl
theorem s143_4 : gOps Try.prog 0 call (opsAt (fAt Try.f143 [1,1,0,1,0,0,1,1,0,0,0])) ((opsAt (fAt Try.f143 [1,1,0,1,0,0,1,1,0,0,0])).drop 0) ((FF 48 d) |>.set 13 v1) H K' =
  onV (oIndexAddr Try.prog 60 (d 10) (d 12)) fun v2 =>
  onV (gLoad Try.prog 157 v2 H) fun v3 =>
  onH (gStore Try.prog 157 (.pointer (some ⟨H.n, 0, none⟩)) v3 (GH.push H (.row [(.int .u8 0), (.int .i64 0), (.bool false), (.int .u8 0)] 157 false))) fun H4 =>
  K' ((FF 48 d) |>.set 13 v1 |>.set 14 v2 |>.set 15 v3 |>.set 5 (.pointer (some ⟨H.n, 0, none⟩))) H4 := by kernel_rfl
theorem s143_5 : gOps Try.prog 0 call (opsAt (fAt Try.f143 [1,1,0,1,0,0,1,1,0,0,1,0])) ((opsAt (fAt Try.f143 [1,1,0,1,0,0,1,1,0,0,1,0])).drop 0) ((FF 48 d) |>.set 13 v1 |>.set 14 v2 |>.set 15 v3 |>.set 5 (.pointer (some ⟨H.n, 0, none⟩))) H4 K' =
  onV (oLen Try.prog 60 (d 3)) fun v5 =>
  onV ((oBin Try.prog .sub 3 v5 (.int .i64 1)).filter closed) fun v6 =>
  K' ((FF 48 d) |>.set 13 v1 |>.set 14 v2 |>.set 15 v3 |>.set 5 (.pointer (some ⟨H.n, 0, none⟩)) |>.set 16 (d 3) |>.set 17 v5 |>.set 18 v6 |>.set 6 v6) H4 := by kernel_rfl
theorem s143_6 : gOps Try.prog 2 call (opsAt (fAt Try.f143 [1,1,0,1,0,0,1,1,0,0,1,1,0])) (((opsAt (fAt Try.f143 [1,1,0,1,0,0,1,1,0,0,1,1,0])).drop 0).take 3) (FF 48 d) H K' =
  onV ((oBin Try.prog .geq 3 (d 6) (.int .i64 0)).filter closed) fun v1 =>
  onGrd true v1 (K' ((FF 48 d) |>.set 19 (d 6) |>.set 20 v1 |>.set 21 v1) H) := by kernel_rfl
theorem s143_7 : gOps Try.prog 0 call (opsAt (fAt Try.f143 [1,1,1,0])) ((opsAt (fAt Try.f143 [1,1,1,0])).drop 0) (FF 48 d) H K' =
  onCall 0 call (.func (.func 146) #[] #[]) [(d 3)] H fun v1 H2 =>
  onCall 0 call (.func (.func 145) #[] #[]) [v1] H2 fun v3 H4 =>
  K' ((FF 48 d) |>.set 45 (d 3) |>.set 46 v1 |>.set 47 v3 |>.set 2 v3) H4 := by kernel_rfl
theorem s143_8 : gOps Try.prog 2 call (opsAt (fAt Try.f143 [1,1,0,1,0,0,1,1,0,0,1,1,0])) (((opsAt (fAt Try.f143 [1,1,0,1,0,0,1,1,0,0,1,1,0])).drop 3).take 9) ((FF 48 d) |>.set 21 (.bool true)) H K' =
  onV (oIndexAddr Try.prog 60 (d 3) (d 6)) fun v1 =>
  onV (gLoad Try.prog 157 v1 H) fun v2 =>
  onV (gLoad Try.prog 157 (d 5) H) fun v3 =>
  onCall 2 call (.func (.func 174) #[] #[]) [v3] H fun v4 H5 =>
  onV ((oBin Try.prog .eql 157 v2 v4).filter closed) fun v6 =>
  onGrd true v6 (K' ((FF 48 d) |>.set 21 (.bool true) |>.set 22 (d 3) |>.set 23 (d 6) |>.set 24 v1 |>.set 25 v2 |>.set 26 v3 |>.set 27 v4 |>.set 28 v6 |>.set 29 v6 |>.set 30 v6) H5) := by kernel_rfl
theorem s143_9 : gOps Try.prog 2 call (opsAt (fAt Try.f143 [1,1,0,1,0,0,1,1,0,0,1,1,0])) ((opsAt (fAt Try.f143 [1,1,0,1,0,0,1,1,0,0,1,1,0])).drop 3) ((FF 48 d) |>.set 21 (.bool false)) H K' =
  K' ((FF 48 d) |>.set 21 (.bool false) |>.set 22 undef |>.set 23 undef |>.set 24 undef |>.set 25 undef |>.set 26 undef |>.set 27 undef |>.set 28 undef |>.set 29 (.bool false) |>.set 30 (.bool false) |>.set 31 undef |>.set 32 undef |>.set 33 undef |>.set 34 (.bool false)) H := by kernel_rfl
theorem s143_10 : gOps Try.prog 2 call (opsAt (fAt Try.f143 [1,1,0,1,0,0,1,1,0,0,1,1,0])) ((opsAt (fAt Try.f143 [1,1,0,1,0,0,1,1,0,0,1,1,0])).drop 12) ((FF 48 d) |>.set 30 (.bool true)) H K' =
  onV (oFieldAddr Try.prog 157 (d 5) 2) fun v1 =>
  onV (gLoad Try.prog 155 v1 H) fun v2 =>
  onV ((oBin Try.prog .leq 155 v2 (.int .u8 1)).filter closed) fun v3 =>
  K' ((FF 48 d) |>.set 30 (.bool true) |>.set 31 v1 |>.set 32 v2 |>.set 33 v3 |>.set 34 v3) H := by kernel_rfl
theorem s143_11 : gOps Try.prog 0 call (opsAt (fAt Try.f143 [1,1,0,1,0,0,1,1,0,0,1,1,1,0])) ((opsAt (fAt Try.f143 [1,1,0,1,0,0,1,1,0,0,1,1,1,0])).drop 0) ((FF 48 d) |>.set 30 (.bool true) |>.set 31 v1 |>.set 32 v2 |>.set 33 v3 |>.set 34 v3) H K' =
  onV (oCap Try.prog 60 (d 3)) fun v4 =>
  onV (oSlice Try.prog 60 (d 3) none (some (d 6)) (some v4)) fun v5 =>
  K' ((FF 48 d) |>.set 30 (.bool true) |>.set 31 v1 |>.set 32 v2 |>.set 33 v3 |>.set 34 v3 |>.set 35 (d 3) |>.set 36 (d 6) |>.set 37 (d 3) |>.set 38 v4 |>.set 39 v5 |>.set 3 v5) H := by kernel_rfl
theorem s143_12 : gOps Try.prog 0 call (opsAt (fAt Try.f143 [1,1,0,1,0,0,1,1,1])) ((opsAt (fAt Try.f143 [1,1,0,1,0,0,1,1,1])).drop 0) ((FF 48 d) |>.set 30 (.bool true) |>.set 31 v1 |>.set 32 v2 |>.set 33 v3 |>.set 34 v3 |>.set 35 (d 3) |>.set 36 (d 6) |>.set 37 (d 3) |>.set 38 v4 |>.set 39 v5 |>.set 3 v5) H K' =
  onV ((oBin Try.prog .add 3 (d 12) (.int .i64 1)).filter closed) fun v6 =>
  K' ((FF 48 d) |>.set 30 (.bool true) |>.set 31 v1 |>.set 32 v2 |>.set 33 v3 |>.set 34 v3 |>.set 35 (d 3) |>.set 36 (d 6) |>.set 37 (d 3) |>.set 38 v4 |>.set 39 v5 |>.set 3 v5 |>.set 44 v6 |>.set 12 v6) H := by kernel_rfl
theorem s143_13 : gOps Try.prog 0 call (opsAt (fAt Try.f143 [1,1,0,1,0,0,1,1,0,0,1,1,1,1])) ((opsAt (fAt Try.f143 [1,1,0,1,0,0,1,1,0,0,1,1,1,1])).drop 0) ((FF 48 d) |>.set 30 (.bool true) |>.set 31 v1 |>.set 32 v2 |>.set 33 v3 |>.set 34 v3) H K' =
  onV (gLoad Try.prog 157 (d 5) H) fun v7 =>
  onVH (gBuildSlice Try.prog 60 1 [(0, v7)] H) fun v8 H9 =>
  onVH (gAppend Try.prog 60 60 (d 3) v8 H9) fun v10 H11 =>
  K' ((FF 48 d) |>.set 30 (.bool true) |>.set 31 v1 |>.set 32 v2 |>.set 33 v3 |>.set 34 v3 |>.set 40 (d 3) |>.set 41 v7 |>.set 42 v8 |>.set 43 v10 |>.set 3 v10) H11 := by kernel_rfl
theorem s143_14 : gOps Try.prog 0 call (opsAt (fAt Try.f143 [1,1,0,1,0,0,1,1,1])) ((opsAt (fAt Try.f143 [1,1,0,1,0,0,1,1,1])).drop 0) ((FF 48 d) |>.set 30 (.bool true) |>.set 31 v1 |>.set 32 v2 |>.set 33 v3 |>.set 34 v3 |>.set 40 (d 3) |>.set 41 v7 |>.set 42 v8 |>.set 43 v10 |>.set 3 v10) H11 K' =
  onV ((oBin Try.prog .add 3 (d 12) (.int .i64 1)).filter closed) fun v12 =>
  K' ((FF 48 d) |>.set 30 (.bool true) |>.set 31 v1 |>.set 32 v2 |>.set 33 v3 |>.set 34 v3 |>.set 40 (d 3) |>.set 41 v7 |>.set 42 v8 |>.set 43 v10 |>.set 3 v10 |>.set 44 v12 |>.set 12 v12) H11 := by kernel_rfl
theorem s143_15 : gOps Try.prog 2 call (opsAt (fAt Try.f143 [1,1,0,1,0,0,1,1,0,0,1,1,0])) ((opsAt (fAt Try.f143 [1,1,0,1,0,0,1,1,0,0,1,1,0])).drop 12) ((FF 48 d) |>.set 30 (.bool false)) H K' =
  K' ((FF 48 d) |>.set 30 (.bool false) |>.set 31 undef |>.set 32 undef |>.set 33 undef |>.set 34 (.bool false)) H := by kernel_rfl
theorem s143_16 : gOps Try.prog 0 call (opsAt (fAt Try.f143 [1,1,0,1,0,0,1,1,0,0,1,1,1,1])) ((opsAt (fAt Try.f143 [1,1,0,1,0,0,1,1,0,0,1,1,1,1])).drop 0) ((FF 48 d) |>.set 30 (.bool false) |>.set 31 undef |>.set 32 undef |>.set 33 undef |>.set 34 (.bool false)) H K' =
  onV (gLoad Try.prog 157 (d 5) H) fun v1 =>
  onVH (gBuildSlice Try.prog 60 1 [(0, v1)] H) fun v2 H3 =>
  onVH (gAppend Try.prog 60 60 (d 3) v2 H3) fun v4 H5 =>
  K' ((FF 48 d) |>.set 30 (.bool false) |>.set 31 undef |>.set 32 undef |>.set 33 undef |>.set 34 (.bool false) |>.set 40 (d 3) |>.set 41 v1 |>.set 42 v2 |>.set 43 v4 |>.set 3 v4) H5 := by kernel_rfl
theorem s143_17 : gOps Try.prog 0 call (opsAt (fAt Try.f143 [1,1,0,1,0,0,1,1,1])) ((opsAt (fAt Try.f143 [1,1,0,1,0,0,1,1,1])).drop 0) ((FF 48 d) |>.set 30 (.bool false) |>.set 31 undef |>.set 32 undef |>.set 33 undef |>.set 34 (.bool false) |>.set 40 (d 3) |>.set 41 v1 |>.set 42 v2 |>.set 43 v4 |>.set 3 v4) H5 K' =
  onV ((oBin Try.prog .add 3 (d 12) (.int .i64 1)).filter closed) fun v6 =>
  K' ((FF 48 d) |>.set 30 (.bool false) |>.set 31 undef |>.set 32 undef |>.set 33 undef |>.set 34 (.bool false) |>.set 40 (d 3) |>.set 41 v1 |>.set 42 v2 |>.set 43 v4 |>.set 3 v4 |>.set 44 v6 |>.set 12 v6) H5 := by kernel_rfl
theorem s143_18 : gOps Try.prog 0 call (opsAt (fAt Try.f143 [1,1,0,1,0,0,1,1,0,0,1,1,1,1])) ((opsAt (fAt Try.f143 [1,1,0,1,0,0,1,1,0,0,1,1,1,1])).drop 0) (FF 48 d) H K' =
  onV (gLoad Try.prog 157 (d 5) H) fun v1 =>
  onVH (gBuildSlice Try.prog 60 1 [(0, v1)] H) fun v2 H3 =>
  onVH (gAppend Try.prog 60 60 (d 3) v2 H3) fun v4 H5 =>
  K' ((FF 48 d) |>.set 40 (d 3) |>.set 41 v1 |>.set 42 v2 |>.set 43 v4 |>.set 3 v4) H5 := by kernel_rfl
theorem s143_19 : gOps Try.prog 0 call (opsAt (fAt Try.f143 [1,1,0,1,0,0,1,1,1])) ((opsAt (fAt Try.f143 [1,1,0,1,0,0,1,1,1])).drop 0) ((FF 48 d) |>.set 40 (d 3) |>.set 41 v1 |>.set 42 v2 |>.set 43 v4 |>.set 3 v4) H5 K' =
  onV ((oBin Try.prog .add 3 (d 12) (.int .i64 1)).filter closed) fun v6 =>
  K' ((FF 48 d) |>.set 40 (d 3) |>.set 41 v1 |>.set 42 v2 |>.set 43 v4 |>.set 3 v4 |>.set 44 v6 |>.set 12 v6) H5 := by kernel_rfl
def f143_l3_P (ag : GA → GH → M (Value × GH)) (sg : Value → Value → Value → Value → GH → M (Value × GH)) : Prop := ∀ (d : Nat → Value) (H : GH), ag (FF 48 d) H = sg (d 3) (d 10) (d 11) (d 12) H
theorem f143_l3_at {ag : GA → GH → M (Value × GH)} {sg : Value → Value → Value → Value → GH → M (Value × GH)} (h : f143_l3_P ag sg) : ag (FF 48 d) H = sg (d 3) (d 10) (d 11) (d 12) H := h d H
noncomputable def f143_r8 (call : Handle) (k : Nat) (sg_l3 : Value → Value → Value → Value → GH → M (Value × GH)) (x3 x5 x10 x11 x12 : Value) (H : GH) : M (Value × GH) :=
  onV (gLoad Try.prog 157 x5 H) fun v1 =>
  onVH (gBuildSlice Try.prog 60 1 [(0, v1)] H) fun v2 H3 =>
  onVH (gAppend Try.prog 60 60 x3 v2 H3) fun v4 H5 =>
  onV ((oBin Try.prog .add 3 x12 (.int .i64 1)).filter closed) fun v6 =>
  (sg_l3 v4 x10 x11 v6 H5)
theorem f143_r8_eq (call : Handle) (k : Nat) (ag_l3 : GA → GH → M (Value × GH)) (sg_l3 : Value → Value → Value → Value → GH → M (Value × GH)) (h_l3 : f143_l3_P ag_l3 sg_l3) : gCode Try.prog call k (fAt Try.f143 [1,1,0,1,0,0,1,1,0,0,1,1,1,1]) (FF 48 d) H (hBlock 1 (hSeq (gCode Try.prog call k (fAt Try.f143 [1,1,0,1,0,0,1,1,1])) (hLoop ag_l3 (hBlock 0 (hSeq (gCode Try.prog call k (fAt Try.f143 [1,1,1])) (hFin Try.prog Try.f143)))))) = f143_r8 call k sg_l3 (d 3) (d 5) (d 10) (d 11) (d 12) H := by
  unfold f143_r8
  rw [n143_29]
  rw [s143_18]
  refine onV_c fun v1 => ?_
  refine onVH_c fun v2 H3 => ?_
  refine onVH_c fun v4 H5 => ?_
  rw [hBlock_n]
  rw [hSeq_n]
  rw [n143_28]
  rw [s143_19]
  refine onV_c fun v6 => ?_
  rw [hLoop_n]
  rw [show ((FF 48 d) |>.set 40 (d 3) |>.set 41 v1 |>.set 42 v2 |>.set 43 v4 |>.set 3 v4 |>.set 44 v6 |>.set 12 v6) = (FF 48 (gf ((FF 48 d) |>.set 40 (d 3) |>.set 41 v1 |>.set 42 v2 |>.set 43 v4 |>.set 3 v4 |>.set 44 v6 |>.set 12 v6))) from by kernel_rfl]
  exact (f143_l3_at (d := gf ((FF 48 d) |>.set 40 (d 3) |>.set 41 v1 |>.set 42 v2 |>.set 43 v4 |>.set 3 v4 |>.set 44 v6 |>.set 12 v6)) h_l3).trans (by kernel_rfl)
noncomputable def f143_g6_12 (call : Handle) (k : Nat) (sg_l3 : Value → Value → Value → Value → GH → M (Value × GH)) (x30 : Value) (x3 x5 x6 x10 x11 x12 : Value) (H : GH) : M (Value × GH) :=
 onBool (asB x30)
  (onV (oFieldAddr Try.prog 157 x5 2) fun v1 =>
  onV (gLoad Try.prog 155 v1 H) fun v2 =>
  onV ((oBin Try.prog .leq 155 v2 (.int .u8 1)).filter closed) fun v3 =>
  onBool (asB v3)
  (onV (oCap Try.prog 60 x3) fun v4 =>
  onV (oSlice Try.prog 60 x3 none (some x6) (some v4)) fun v5 =>
  onV ((oBin Try.prog .add 3 x12 (.int .i64 1)).filter closed) fun v6 =>
  (sg_l3 v5 x10 x11 v6 H))
  (onV (gLoad Try.prog 157 x5 H) fun v7 =>
  onVH (gBuildSlice Try.prog 60 1 [(0, v7)] H) fun v8 H9 =>
  onVH (gAppend Try.prog 60 60 x3 v8 H9) fun v10 H11 =>
  onV ((oBin Try.prog .add 3 x12 (.int .i64 1)).filter closed) fun v12 =>
  (sg_l3 v10 x10 x11 v12 H11)))
  (onV (gLoad Try.prog 157 x5 H) fun v1 =>
  onVH (gBuildSlice Try.prog 60 1 [(0, v1)] H) fun v2 H3 =>
  onVH (gAppend Try.prog 60 60 x3 v2 H3) fun v4 H5 =>
  onV ((oBin Try.prog .add 3 x12 (.int .i64 1)).filter closed) fun v6 =>
  (sg_l3 v4 x10 x11 v6 H5))
theorem f143_g6_12_true (call : Handle) (k : Nat) (ag_l3 : GA → GH → M (Value × GH)) (sg_l3 : Value → Value → Value → Value → GH → M (Value × GH)) (h_l3 : f143_l3_P ag_l3 sg_l3) : gOps Try.prog 2 call (opsAt (fAt Try.f143 [1,1,0,1,0,0,1,1,0,0,1,1,0])) ((opsAt (fAt Try.f143 [1,1,0,1,0,0,1,1,0,0,1,1,0])).drop 12) ((FF 48 d) |>.set 30 (.bool true)) H ((hSeq (gCode Try.prog call k (fAt Try.f143 [1,1,0,1,0,0,1,1,0,0,1,1,1])) (hBlock 1 (hSeq (gCode Try.prog call k (fAt Try.f143 [1,1,0,1,0,0,1,1,1])) (hLoop ag_l3 (hBlock 0 (hSeq (gCode Try.prog call k (fAt Try.f143 [1,1,1])) (hFin Try.prog Try.f143))))))) .normal) =
  onV (oFieldAddr Try.prog 157 (d 5) 2) fun v1 =>
  onV (gLoad Try.prog 155 v1 H) fun v2 =>
  onV ((oBin Try.prog .leq 155 v2 (.int .u8 1)).filter closed) fun v3 =>
  onBool (asB v3)
  (onV (oCap Try.prog 60 (d 3)) fun v4 =>
  onV (oSlice Try.prog 60 (d 3) none (some (d 6)) (some v4)) fun v5 =>
  onV ((oBin Try.prog .add 3 (d 12) (.int .i64 1)).filter closed) fun v6 =>
  (sg_l3 v5 (d 10) (d 11) v6 H))
  (onV (gLoad Try.prog 157 (d 5) H) fun v7 =>
  onVH (gBuildSlice Try.prog 60 1 [(0, v7)] H) fun v8 H9 =>
  onVH (gAppend Try.prog 60 60 (d 3) v8 H9) fun v10 H11 =>
  onV ((oBin Try.prog .add 3 (d 12) (.int .i64 1)).filter closed) fun v12 =>
  (sg_l3 v10 (d 10) (d 11) v12 H11)) := by
  rw [s143_10]
  refine onV_c fun v1 => ?_
  refine onV_c fun v2 => ?_
  refine onV_c fun v3 => ?_
  rw [hSeq_n]
  rw [n143_26]
  refine onBool_cc (by kernel_rfl) ?_ ?_
  · rw [n143_27]
    rw [s143_11]
    refine onV_c fun v4 => ?_
    refine onV_c fun v5 => ?_
    rw [hBlock_n]
    rw [hSeq_n]
    rw [n143_28]
    rw [s143_12]
    refine onV_c fun v6 => ?_
    rw [hLoop_n]
    rw [show ((FF 48 d) |>.set 30 (.bool true) |>.set 31 v1 |>.set 32 v2 |>.set 33 v3 |>.set 34 v3 |>.set 35 (d 3) |>.set 36 (d 6) |>.set 37 (d 3) |>.set 38 v4 |>.set 39 v5 |>.set 3 v5 |>.set 44 v6 |>.set 12 v6) = (FF 48 (gf ((FF 48 d) |>.set 30 (.bool true) |>.set 31 v1 |>.set 32 v2 |>.set 33 v3 |>.set 34 v3 |>.set 35 (d 3) |>.set 36 (d 6) |>.set 37 (d 3) |>.set 38 v4 |>.set 39 v5 |>.set 3 v5 |>.set 44 v6 |>.set 12 v6))) from by kernel_rfl]
    exact (f143_l3_at (d := gf ((FF 48 d) |>.set 30 (.bool true) |>.set 31 v1 |>.set 32 v2 |>.set 33 v3 |>.set 34 v3 |>.set 35 (d 3) |>.set 36 (d 6) |>.set 37 (d 3) |>.set 38 v4 |>.set 39 v5 |>.set 3 v5 |>.set 44 v6 |>.set 12 v6)) h_l3).trans (by kernel_rfl)
  · rw [n143_29]
    rw [s143_13]
    refine onV_c fun v7 => ?_
    refine onVH_c fun v8 H9 => ?_
    refine onVH_c fun v10 H11 => ?_
    rw [hBlock_n]
    rw [hSeq_n]
    rw [n143_28]
    rw [s143_14]
    refine onV_c fun v12 => ?_
    rw [hLoop_n]
    rw [show ((FF 48 d) |>.set 30 (.bool true) |>.set 31 v1 |>.set 32 v2 |>.set 33 v3 |>.set 34 v3 |>.set 40 (d 3) |>.set 41 v7 |>.set 42 v8 |>.set 43 v10 |>.set 3 v10 |>.set 44 v12 |>.set 12 v12) = (FF 48 (gf ((FF 48 d) |>.set 30 (.bool true) |>.set 31 v1 |>.set 32 v2 |>.set 33 v3 |>.set 34 v3 |>.set 40 (d 3) |>.set 41 v7 |>.set 42 v8 |>.set 43 v10 |>.set 3 v10 |>.set 44 v12 |>.set 12 v12))) from by kernel_rfl]
    exact (f143_l3_at (d := gf ((FF 48 d) |>.set 30 (.bool true) |>.set 31 v1 |>.set 32 v2 |>.set 33 v3 |>.set 34 v3 |>.set 40 (d 3) |>.set 41 v7 |>.set 42 v8 |>.set 43 v10 |>.set 3 v10 |>.set 44 v12 |>.set 12 v12)) h_l3).trans (by kernel_rfl)
theorem f143_g6_12_false (call : Handle) (k : Nat) (ag_l3 : GA → GH → M (Value × GH)) (sg_l3 : Value → Value → Value → Value → GH → M (Value × GH)) (h_l3 : f143_l3_P ag_l3 sg_l3) : gOps Try.prog 2 call (opsAt (fAt Try.f143 [1,1,0,1,0,0,1,1,0,0,1,1,0])) ((opsAt (fAt Try.f143 [1,1,0,1,0,0,1,1,0,0,1,1,0])).drop 12) ((FF 48 d) |>.set 30 (.bool false)) H ((hSeq (gCode Try.prog call k (fAt Try.f143 [1,1,0,1,0,0,1,1,0,0,1,1,1])) (hBlock 1 (hSeq (gCode Try.prog call k (fAt Try.f143 [1,1,0,1,0,0,1,1,1])) (hLoop ag_l3 (hBlock 0 (hSeq (gCode Try.prog call k (fAt Try.f143 [1,1,1])) (hFin Try.prog Try.f143))))))) .normal) =
  onV (gLoad Try.prog 157 (d 5) H) fun v1 =>
  onVH (gBuildSlice Try.prog 60 1 [(0, v1)] H) fun v2 H3 =>
  onVH (gAppend Try.prog 60 60 (d 3) v2 H3) fun v4 H5 =>
  onV ((oBin Try.prog .add 3 (d 12) (.int .i64 1)).filter closed) fun v6 =>
  (sg_l3 v4 (d 10) (d 11) v6 H5) := by
  rw [s143_15]
  rw [hSeq_n]
  rw [n143_26]
  refine (onBool_ff (by kernel_rfl)).trans ?_
  rw [n143_29]
  rw [s143_16]
  refine onV_c fun v1 => ?_
  refine onVH_c fun v2 H3 => ?_
  refine onVH_c fun v4 H5 => ?_
  rw [hBlock_n]
  rw [hSeq_n]
  rw [n143_28]
  rw [s143_17]
  refine onV_c fun v6 => ?_
  rw [hLoop_n]
  rw [show ((FF 48 d) |>.set 30 (.bool false) |>.set 31 undef |>.set 32 undef |>.set 33 undef |>.set 34 (.bool false) |>.set 40 (d 3) |>.set 41 v1 |>.set 42 v2 |>.set 43 v4 |>.set 3 v4 |>.set 44 v6 |>.set 12 v6) = (FF 48 (gf ((FF 48 d) |>.set 30 (.bool false) |>.set 31 undef |>.set 32 undef |>.set 33 undef |>.set 34 (.bool false) |>.set 40 (d 3) |>.set 41 v1 |>.set 42 v2 |>.set 43 v4 |>.set 3 v4 |>.set 44 v6 |>.set 12 v6))) from by kernel_rfl]
  exact (f143_l3_at (d := gf ((FF 48 d) |>.set 30 (.bool false) |>.set 31 undef |>.set 32 undef |>.set 33 undef |>.set 34 (.bool false) |>.set 40 (d 3) |>.set 41 v1 |>.set 42 v2 |>.set 43 v4 |>.set 3 v4 |>.set 44 v6 |>.set 12 v6)) h_l3).trans (by kernel_rfl)
theorem f143_g6_12_eq (call : Handle) (k : Nat) (ag_l3 : GA → GH → M (Value × GH)) (sg_l3 : Value → Value → Value → Value → GH → M (Value × GH)) (h_l3 : f143_l3_P ag_l3 sg_l3) : onGrd true xg (gOps Try.prog 2 call (opsAt (fAt Try.f143 [1,1,0,1,0,0,1,1,0,0,1,1,0])) ((opsAt (fAt Try.f143 [1,1,0,1,0,0,1,1,0,0,1,1,0])).drop 12) ((FF 48 d) |>.set 30 xg) H ((hSeq (gCode Try.prog call k (fAt Try.f143 [1,1,0,1,0,0,1,1,0,0,1,1,1])) (hBlock 1 (hSeq (gCode Try.prog call k (fAt Try.f143 [1,1,0,1,0,0,1,1,1])) (hLoop ag_l3 (hBlock 0 (hSeq (gCode Try.prog call k (fAt Try.f143 [1,1,1])) (hFin Try.prog Try.f143))))))) .normal)) =
  f143_g6_12 call k sg_l3 xg (d 3) (d 5) (d 6) (d 10) (d 11) (d 12) H := by
  cases xg with
  | bool b => cases b with
    | true => exact onGrd_b.trans (f143_g6_12_true call k ag_l3 sg_l3 h_l3)
    | false => exact onGrd_b.trans (f143_g6_12_false call k ag_l3 sg_l3 h_l3)
  | _ => kernel_rfl
noncomputable def f143_g6_3 (call : Handle) (k : Nat) (sg_l3 : Value → Value → Value → Value → GH → M (Value × GH)) (x21 : Value) (x3 x5 x6 x10 x11 x12 : Value) (H : GH) : M (Value × GH) :=
 onBool (asB x21)
  (onV (oIndexAddr Try.prog 60 x3 x6) fun v1 =>
  onV (gLoad Try.prog 157 v1 H) fun v2 =>
  onV (gLoad Try.prog 157 x5 H) fun v3 =>
  onCall 2 call (.func (.func 174) #[] #[]) [v3] H fun v4 H5 =>
  onV ((oBin Try.prog .eql 157 v2 v4).filter closed) fun v6 =>
  (f143_g6_12 call k (sg_l3) v6 x3 x5 x6 x10 x11 x12 H5))
  ((f143_r8 call k (sg_l3) x3 x5 x10 x11 x12 H))
theorem f143_g6_3_true (call : Handle) (k : Nat) (ag_l3 : GA → GH → M (Value × GH)) (sg_l3 : Value → Value → Value → Value → GH → M (Value × GH)) (h_l3 : f143_l3_P ag_l3 sg_l3) : gOps Try.prog 2 call (opsAt (fAt Try.f143 [1,1,0,1,0,0,1,1,0,0,1,1,0])) ((opsAt (fAt Try.f143 [1,1,0,1,0,0,1,1,0,0,1,1,0])).drop 3) ((FF 48 d) |>.set 21 (.bool true)) H ((hSeq (gCode Try.prog call k (fAt Try.f143 [1,1,0,1,0,0,1,1,0,0,1,1,1])) (hBlock 1 (hSeq (gCode Try.prog call k (fAt Try.f143 [1,1,0,1,0,0,1,1,1])) (hLoop ag_l3 (hBlock 0 (hSeq (gCode Try.prog call k (fAt Try.f143 [1,1,1])) (hFin Try.prog Try.f143))))))) .normal) =
  onV (oIndexAddr Try.prog 60 (d 3) (d 6)) fun v1 =>
  onV (gLoad Try.prog 157 v1 H) fun v2 =>
  onV (gLoad Try.prog 157 (d 5) H) fun v3 =>
  onCall 2 call (.func (.func 174) #[] #[]) [v3] H fun v4 H5 =>
  onV ((oBin Try.prog .eql 157 v2 v4).filter closed) fun v6 =>
  (f143_g6_12 call k (sg_l3) v6 (d 3) (d 5) (d 6) (d 10) (d 11) (d 12) H5) := by
  rw [gOps_split 3 9, s143_8]
  refine onV_c fun v1 => ?_
  refine onV_c fun v2 => ?_
  refine onV_c fun v3 => ?_
  refine onCall_c fun v4 H5 => ?_
  refine onV_c fun v6 => ?_
  rw [show ((FF 48 d) |>.set 21 (.bool true) |>.set 22 (d 3) |>.set 23 (d 6) |>.set 24 v1 |>.set 25 v2 |>.set 26 v3 |>.set 27 v4 |>.set 28 v6 |>.set 29 v6 |>.set 30 v6) = ((FF 48 (gf ((FF 48 d) |>.set 21 (.bool true) |>.set 22 (d 3) |>.set 23 (d 6) |>.set 24 v1 |>.set 25 v2 |>.set 26 v3 |>.set 27 v4 |>.set 28 v6 |>.set 29 v6 |>.set 30 v6))) |>.set 30 v6) from by kernel_rfl]
  exact (f143_g6_12_eq (d := gf ((FF 48 d) |>.set 21 (.bool true) |>.set 22 (d 3) |>.set 23 (d 6) |>.set 24 v1 |>.set 25 v2 |>.set 26 v3 |>.set 27 v4 |>.set 28 v6 |>.set 29 v6 |>.set 30 v6)) call k ag_l3 sg_l3 h_l3).trans (by kernel_rfl)
theorem f143_g6_3_false (call : Handle) (k : Nat) (ag_l3 : GA → GH → M (Value × GH)) (sg_l3 : Value → Value → Value → Value → GH → M (Value × GH)) (h_l3 : f143_l3_P ag_l3 sg_l3) : gOps Try.prog 2 call (opsAt (fAt Try.f143 [1,1,0,1,0,0,1,1,0,0,1,1,0])) ((opsAt (fAt Try.f143 [1,1,0,1,0,0,1,1,0,0,1,1,0])).drop 3) ((FF 48 d) |>.set 21 (.bool false)) H ((hSeq (gCode Try.prog call k (fAt Try.f143 [1,1,0,1,0,0,1,1,0,0,1,1,1])) (hBlock 1 (hSeq (gCode Try.prog call k (fAt Try.f143 [1,1,0,1,0,0,1,1,1])) (hLoop ag_l3 (hBlock 0 (hSeq (gCode Try.prog call k (fAt Try.f143 [1,1,1])) (hFin Try.prog Try.f143))))))) .normal) =
  (f143_r8 call k (sg_l3) (d 3) (d 5) (d 10) (d 11) (d 12) H) := by
  rw [s143_9]
  rw [hSeq_n]
  rw [n143_26]
  refine (onBool_ff (by kernel_rfl)).trans ?_
  rw [show ((FF 48 d) |>.set 21 (.bool false) |>.set 22 undef |>.set 23 undef |>.set 24 undef |>.set 25 undef |>.set 26 undef |>.set 27 undef |>.set 28 undef |>.set 29 (.bool false) |>.set 30 (.bool false) |>.set 31 undef |>.set 32 undef |>.set 33 undef |>.set 34 (.bool false)) = (FF 48 (gf ((FF 48 d) |>.set 21 (.bool false) |>.set 22 undef |>.set 23 undef |>.set 24 undef |>.set 25 undef |>.set 26 undef |>.set 27 undef |>.set 28 undef |>.set 29 (.bool false) |>.set 30 (.bool false) |>.set 31 undef |>.set 32 undef |>.set 33 undef |>.set 34 (.bool false)))) from by kernel_rfl]
  exact (f143_r8_eq (d := gf ((FF 48 d) |>.set 21 (.bool false) |>.set 22 undef |>.set 23 undef |>.set 24 undef |>.set 25 undef |>.set 26 undef |>.set 27 undef |>.set 28 undef |>.set 29 (.bool false) |>.set 30 (.bool false) |>.set 31 undef |>.set 32 undef |>.set 33 undef |>.set 34 (.bool false))) call k ag_l3 sg_l3 h_l3).trans (by kernel_rfl)
theorem f143_g6_3_eq (call : Handle) (k : Nat) (ag_l3 : GA → GH → M (Value × GH)) (sg_l3 : Value → Value → Value → Value → GH → M (Value × GH)) (h_l3 : f143_l3_P ag_l3 sg_l3) : onGrd true xg (gOps Try.prog 2 call (opsAt (fAt Try.f143 [1,1,0,1,0,0,1,1,0,0,1,1,0])) ((opsAt (fAt Try.f143 [1,1,0,1,0,0,1,1,0,0,1,1,0])).drop 3) ((FF 48 d) |>.set 21 xg) H ((hSeq (gCode Try.prog call k (fAt Try.f143 [1,1,0,1,0,0,1,1,0,0,1,1,1])) (hBlock 1 (hSeq (gCode Try.prog call k (fAt Try.f143 [1,1,0,1,0,0,1,1,1])) (hLoop ag_l3 (hBlock 0 (hSeq (gCode Try.prog call k (fAt Try.f143 [1,1,1])) (hFin Try.prog Try.f143))))))) .normal)) =
  f143_g6_3 call k sg_l3 xg (d 3) (d 5) (d 6) (d 10) (d 11) (d 12) H := by
  cases xg with
  | bool b => cases b with
    | true => exact onGrd_b.trans (f143_g6_3_true call k ag_l3 sg_l3 h_l3)
    | false => exact onGrd_b.trans (f143_g6_3_false call k ag_l3 sg_l3 h_l3)
  | _ => kernel_rfl
noncomputable def f143_r6 (call : Handle) (k : Nat) (sg_l3 : Value → Value → Value → Value → GH → M (Value × GH)) (x3 x5 x6 x10 x11 x12 : Value) (H : GH) : M (Value × GH) :=
  onV ((oBin Try.prog .geq 3 x6 (.int .i64 0)).filter closed) fun v1 =>
  (f143_g6_3 call k (sg_l3) v1 x3 x5 x6 x10 x11 x12 H)
theorem f143_r6_eq (call : Handle) (k : Nat) (ag_l3 : GA → GH → M (Value × GH)) (sg_l3 : Value → Value → Value → Value → GH → M (Value × GH)) (h_l3 : f143_l3_P ag_l3 sg_l3) : gCode Try.prog call k (fAt Try.f143 [1,1,0,1,0,0,1,1,0,0,1,1,0]) (FF 48 d) H (hSeq (gCode Try.prog call k (fAt Try.f143 [1,1,0,1,0,0,1,1,0,0,1,1,1])) (hBlock 1 (hSeq (gCode Try.prog call k (fAt Try.f143 [1,1,0,1,0,0,1,1,1])) (hLoop ag_l3 (hBlock 0 (hSeq (gCode Try.prog call k (fAt Try.f143 [1,1,1])) (hFin Try.prog Try.f143))))))) = f143_r6 call k sg_l3 (d 3) (d 5) (d 6) (d 10) (d 11) (d 12) H := by
  unfold f143_r6
  rw [n143_22]
  rw [gOps_split 0 3, s143_6]
  refine onV_c fun v1 => ?_
  rw [show ((FF 48 d) |>.set 19 (d 6) |>.set 20 v1 |>.set 21 v1) = ((FF 48 (gf ((FF 48 d) |>.set 19 (d 6) |>.set 20 v1 |>.set 21 v1))) |>.set 21 v1) from by kernel_rfl]
  exact (f143_g6_3_eq (d := gf ((FF 48 d) |>.set 19 (d 6) |>.set 20 v1 |>.set 21 v1)) call k ag_l3 sg_l3 h_l3).trans (by kernel_rfl)
noncomputable def f143_r10 (call : Handle) (k : Nat) (x3 : Value) (H : GH) : M (Value × GH) :=
  onCall 0 call (.func (.func 146) #[] #[]) [x3] H fun v1 H2 =>
  onCall 0 call (.func (.func 145) #[] #[]) [v1] H2 fun v3 H4 =>
  some [(v3, H4)]
theorem f143_r10_eq (call : Handle) (k : Nat) : gCode Try.prog call k (fAt Try.f143 [1,1,1]) (FF 48 d) H (hFin Try.prog Try.f143) = f143_r10 call k (d 3) H := by
  unfold f143_r10
  rw [n143_23]
  rw [n143_24]
  rw [s143_7]
  refine onCall_c fun v1 H2 => ?_
  refine onCall_c fun v3 H4 => ?_
  rw [hSeq_n]
  rw [n143_25]
  kernel_rfl
noncomputable def f143_l3b (call : Handle) (k : Nat) (sg_l3 : Value → Value → Value → Value → GH → M (Value × GH)) (x3 x10 x11 x12 : Value) (H : GH) : M (Value × GH) :=
  onV ((oBin Try.prog .lss 3 x12 x11).filter closed) fun v1 =>
  onBool (asB v1)
  (onV (oIndexAddr Try.prog 60 x10 x12) fun v2 =>
  onV (gLoad Try.prog 157 v2 H) fun v3 =>
  onH (gStore Try.prog 157 (.pointer (some ⟨H.n, 0, none⟩)) v3 (GH.push H (.row [(.int .u8 0), (.int .i64 0), (.bool false), (.int .u8 0)] 157 false))) fun H4 =>
  onV (oLen Try.prog 60 x3) fun v5 =>
  onV ((oBin Try.prog .sub 3 v5 (.int .i64 1)).filter closed) fun v6 =>
  (f143_r6 call k (sg_l3) x3 (.pointer (some ⟨H.n, 0, none⟩)) v6 x10 x11 x12 H4))
  ((f143_r10 call k x3 H))
theorem f143_l3b_eq (call : Handle) (k : Nat) (ag_l3 : GA → GH → M (Value × GH)) (sg_l3 : Value → Value → Value → Value → GH → M (Value × GH)) (h_l3 : f143_l3_P ag_l3 sg_l3) : gCode Try.prog call k (fAt Try.f143 [1,1,0,1,0,0]) (FF 48 d) H (hLoop ag_l3 (hBlock 0 (hSeq (gCode Try.prog call k (fAt Try.f143 [1,1,1])) (hFin Try.prog Try.f143)))) = f143_l3b call k sg_l3 (d 3) (d 10) (d 11) (d 12) H := by
  unfold f143_l3b
  rw [n143_9]
  rw [n143_10]
  rw [s143_3]
  refine onV_c fun v1 => ?_
  rw [hSeq_n]
  rw [n143_11]
  rw [n143_12]
  refine onBool_cc (by kernel_rfl) ?_ ?_
  · rw [n143_13]
    rw [hSeq_n]
    rw [n143_14]
    rw [n143_15]
    rw [n143_16]
    rw [n143_17]
    rw [s143_4]
    refine onV_c fun v2 => ?_
    refine onV_c fun v3 => ?_
    refine onH_c fun H4 => ?_
    rw [hSeq_n]
    rw [n143_18]
    rw [n143_19]
    rw [s143_5]
    refine onV_c fun v5 => ?_
    refine onV_c fun v6 => ?_
    rw [hSeq_n]
    rw [n143_20]
    rw [show ((FF 48 d) |>.set 13 v1 |>.set 14 v2 |>.set 15 v3 |>.set 5 (.pointer (some ⟨H.n, 0, none⟩)) |>.set 16 (d 3) |>.set 17 v5 |>.set 18 v6 |>.set 6 v6) = (FF 48 (gf ((FF 48 d) |>.set 13 v1 |>.set 14 v2 |>.set 15 v3 |>.set 5 (.pointer (some ⟨H.n, 0, none⟩)) |>.set 16 (d 3) |>.set 17 v5 |>.set 18 v6 |>.set 6 v6))) from by kernel_rfl]
    exact (f143_r6_eq (d := gf ((FF 48 d) |>.set 13 v1 |>.set 14 v2 |>.set 15 v3 |>.set 5 (.pointer (some ⟨H.n, 0, none⟩)) |>.set 16 (d 3) |>.set 17 v5 |>.set 18 v6 |>.set 6 v6)) call k ag_l3 sg_l3 h_l3).trans (by kernel_rfl)
  · rw [n143_21]
    rw [hSeq_e, hLoop_e, hBlock_hit]
    rw [hSeq_n]
    rw [show ((FF 48 d) |>.set 13 v1) = (FF 48 (gf ((FF 48 d) |>.set 13 v1))) from by kernel_rfl]
    exact (f143_r10_eq (d := gf ((FF 48 d) |>.set 13 v1)) call k).trans (by kernel_rfl)
noncomputable def f143_l3 (call : Handle) (k : Nat) : Nat → Value → Value → Value → Value → GH → M (Value × GH)
  | 0, _, _, _, _, _ => none
  | r + 1, x3, x10, x11, x12, H => f143_l3b call k (f143_l3 call k r) x3 x10 x11 x12 H
theorem f143_l3_eq (call : Handle) (k : Nat) : ∀ (r : Nat), f143_l3_P (gLoop (gCode Try.prog call k (fAt Try.f143 [1,1,0,1,0,0])) (hBlock 0 (hSeq (gCode Try.prog call k (fAt Try.f143 [1,1,1])) (hFin Try.prog Try.f143))) r) (f143_l3 call k r) := by
  intro r
  induction r with
  | zero => unfold f143_l3_P; intros; rfl
  | succ r ih => unfold f143_l3_P; intros; exact f143_l3b_eq call k _ _ ih
noncomputable def f143_sh (call : Handle) (k : Nat) (p0 : Value) (H : GH) : M (Value × GH) :=
  onV (oLen Try.prog 60 p0) fun v1 =>
  onVH (gMakeSlice Try.prog 60 (.int .i64 0) v1 H) fun v2 H3 =>
  onV (oLen Try.prog 60 p0) fun v4 =>
  (f143_l3 call k k v2 p0 v4 (.int .i64 0) H3)
theorem f143_run (call : Handle) (k : Nat) (p0 : Value) (H : GH) : gCode Try.prog call k (fAt Try.f143 []) ((FF 48 fun _ => undef) |>.set 0 p0) H (hFin Try.prog Try.f143) = f143_sh call k p0 H := by
  unfold f143_sh
  rw [n143_0]
  rw [n143_1]
  rw [s143_0]
  rw [hSeq_n]
  rw [n143_2]
  rw [n143_3]
  rw [s143_1]
  refine onV_c fun v1 => ?_
  refine onVH_c fun v2 H3 => ?_
  rw [hSeq_n]
  rw [n143_4]
  rw [n143_5]
  rw [n143_6]
  rw [s143_2]
  refine onV_c fun v4 => ?_
  rw [hSeq_n]
  rw [n143_7]
  rw [n143_8]
  rw [show ((FF 48 fun _ => undef) |>.set 0 p0 |>.set 2 (.slice none 0 0) |>.set 7 p0 |>.set 8 v1 |>.set 9 v2 |>.set 3 v2 |>.set 10 p0 |>.set 11 v4 |>.set 12 (.int .i64 0)) = (FF 48 (gf ((FF 48 fun _ => undef) |>.set 0 p0 |>.set 2 (.slice none 0 0) |>.set 7 p0 |>.set 8 v1 |>.set 9 v2 |>.set 3 v2 |>.set 10 p0 |>.set 11 v4 |>.set 12 (.int .i64 0)))) from by kernel_rfl]
  exact (f143_l3_at (d := gf ((FF 48 fun _ => undef) |>.set 0 p0 |>.set 2 (.slice none 0 0) |>.set 7 p0 |>.set 8 v1 |>.set 9 v2 |>.set 3 v2 |>.set 10 p0 |>.set 11 v4 |>.set 12 (.int .i64 0))) (f143_l3_eq call k k)).trans (by kernel_rfl)
theorem f143_eq (call : Handle) (k : Nat) (p0 : Value) (H : GH) : gFunc Try.prog call k Try.f143 [p0] H = f143_sh call k p0 H :=
  Eq.trans (by kernel_rfl) (f143_run call k p0 H)
end
section
variable {β : Type} {call : Handle} {k : Nat} {a : GA} {K : Kont β} {K' : GA → GH → M β}
variable {d : Nat → Value} {xg : Value}
variable {p0 p1 : Value}
variable {H : GH}
theorem n144_0 : gCode Try.prog call k (fAt Try.f144 []) a H K = gCode Try.prog call k (fAt Try.f144 [0]) a H (hSeq (gCode Try.prog call k (fAt Try.f144 [1])) K) := at_seq (by kernel_rfl)
theorem n144_1 : gCode Try.prog call k (fAt Try.f144 [0]) a H K = gOps Try.prog 0 call (opsAt (fAt Try.f144 [0])) ((opsAt (fAt Try.f144 [0])).drop 0) a H (K .normal) := at_region (by kernel_rfl)
theorem n144_2 : gCode Try.prog call k (fAt Try.f144 [1]) a H K = gCode Try.prog call k (fAt Try.f144 [1,0]) a H (hSeq (gCode Try.prog call k (fAt Try.f144 [1,1])) K) := at_seq (by kernel_rfl)
theorem n144_3 : gCode Try.prog call k (fAt Try.f144 [1,0]) a H K = gOps Try.prog 0 call (opsAt (fAt Try.f144 [1,0])) ((opsAt (fAt Try.f144 [1,0])).drop 0) a H (K .normal) := at_region (by kernel_rfl)
theorem n144_4 : gCode Try.prog call k (fAt Try.f144 [1,1]) a H K = K .ret a H := at_ret (by kernel_rfl)
theorem s144_0 : gOps Try.prog 0 call (opsAt (fAt Try.f144 [0])) ((opsAt (fAt Try.f144 [0])).drop 0) ((FF 8 fun _ => undef) |>.set 0 p0 |>.set 1 p1) H K' =
  K' ((FF 8 fun _ => undef) |>.set 0 p0 |>.set 1 p1 |>.set 2 (.pointer (some ⟨H.n, 0, none⟩)) |>.set 3 (.bool false)) (GH.push H (.row (Value.cells p0).toList 29 false)) := by kernel_rfl
theorem s144_1 : gOps Try.prog 0 call (opsAt (fAt Try.f144 [1,0])) ((opsAt (fAt Try.f144 [1,0])).drop 0) ((FF 8 fun _ => undef) |>.set 0 p0 |>.set 1 p1 |>.set 2 (.pointer (some ⟨H.n, 0, none⟩)) |>.set 3 (.bool false)) (GH.push H (.row (Value.cells p0).toList 29 false)) K' =
  onV (gLoad Try.prog 58 p1 (GH.push H (.row (Value.cells p0).toList 29 false))) fun v1 =>
  onV (gLoad Try.prog 29 (.pointer (some ⟨H.n, 0, none⟩)) (GH.push H (.row (Value.cells p0).toList 29 false))) fun v2 =>
  onCall 0 call (.func (.func 135) #[] #[]) [v1, v2] (GH.push H (.row (Value.cells p0).toList 29 false)) fun v3 H4 =>
  onV ((oUn Try.prog .not v3).filter closed) fun v5 =>
  K' ((FF 8 fun _ => undef) |>.set 0 p0 |>.set 1 p1 |>.set 2 (.pointer (some ⟨H.n, 0, none⟩)) |>.set 3 (.bool false) |>.set 4 v1 |>.set 5 v2 |>.set 6 v3 |>.set 7 v5 |>.set 3 v5) H4 := by kernel_rfl
noncomputable def f144_sh (call : Handle) (k : Nat) (p0 p1 : Value) (H : GH) : M (Value × GH) :=
  onV (gLoad Try.prog 58 p1 (GH.push H (.row (Value.cells p0).toList 29 false))) fun v1 =>
  onV (gLoad Try.prog 29 (.pointer (some ⟨H.n, 0, none⟩)) (GH.push H (.row (Value.cells p0).toList 29 false))) fun v2 =>
  onCall 0 call (.func (.func 135) #[] #[]) [v1, v2] (GH.push H (.row (Value.cells p0).toList 29 false)) fun v3 H4 =>
  onV ((oUn Try.prog .not v3).filter closed) fun v5 =>
  some [(v5, H4)]
theorem f144_run (call : Handle) (k : Nat) (p0 p1 : Value) (H : GH) : gCode Try.prog call k (fAt Try.f144 []) ((FF 8 fun _ => undef) |>.set 0 p0 |>.set 1 p1) H (hFin Try.prog Try.f144) = f144_sh call k p0 p1 H := by
  unfold f144_sh
  rw [n144_0]
  rw [n144_1]
  rw [s144_0]
  rw [hSeq_n]
  rw [n144_2]
  rw [n144_3]
  rw [s144_1]
  refine onV_c fun v1 => ?_
  refine onV_c fun v2 => ?_
  refine onCall_c fun v3 H4 => ?_
  refine onV_c fun v5 => ?_
  rw [hSeq_n]
  rw [n144_4]
  kernel_rfl
theorem f144_eq (call : Handle) (k : Nat) (p0 p1 : Value) (H : GH) : gFunc Try.prog call k Try.f144 [p0, p1] H = f144_sh call k p0 p1 H :=
  Eq.trans (by kernel_rfl) (f144_run call k p0 p1 H)
end
section
variable {β : Type} {call : Handle} {k : Nat} {a : GA} {K : Kont β} {K' : GA → GH → M β}
variable {d : Nat → Value} {xg : Value}
variable {p0 : Value}
variable {H : GH}
theorem n145_0 : gCode Try.prog call k (fAt Try.f145 []) a H K = gCode Try.prog call k (fAt Try.f145 [0]) a H (hSeq (gCode Try.prog call k (fAt Try.f145 [1])) K) := at_seq (by kernel_rfl)
theorem n145_1 : gCode Try.prog call k (fAt Try.f145 [0]) a H K = gOps Try.prog 0 call (opsAt (fAt Try.f145 [0])) ((opsAt (fAt Try.f145 [0])).drop 0) a H (K .normal) := at_region (by kernel_rfl)
theorem n145_2 : gCode Try.prog call k (fAt Try.f145 [1]) a H K = gCode Try.prog call k (fAt Try.f145 [1,0]) a H (hSeq (gCode Try.prog call k (fAt Try.f145 [1,1])) K) := at_seq (by kernel_rfl)
theorem n145_3 : gCode Try.prog call k (fAt Try.f145 [1,0]) a H K = gOps Try.prog 0 call (opsAt (fAt Try.f145 [1,0])) ((opsAt (fAt Try.f145 [1,0])).drop 0) a H (K .normal) := at_region (by kernel_rfl)
theorem n145_4 : gCode Try.prog call k (fAt Try.f145 [1,1]) a H K = K .ret a H := at_ret (by kernel_rfl)
theorem s145_0 : gOps Try.prog 0 call (opsAt (fAt Try.f145 [0])) ((opsAt (fAt Try.f145 [0])).drop 0) ((FF 9 fun _ => undef) |>.set 0 p0) H K' =
  K' ((FF 9 fun _ => undef) |>.set 0 p0 |>.set 2 (.slice none 0 0)) H := by kernel_rfl
theorem s145_1 : gOps Try.prog 0 call (opsAt (fAt Try.f145 [1,0])) ((opsAt (fAt Try.f145 [1,0])).drop 0) ((FF 9 fun _ => undef) |>.set 0 p0 |>.set 2 (.slice none 0 0)) H K' =
  onV (oLen Try.prog 60 p0) fun v1 =>
  onV (oLen Try.prog 60 p0) fun v2 =>
  onV (oSlice Try.prog 60 p0 none (some v1) (some v2)) fun v3 =>
  K' ((FF 9 fun _ => undef) |>.set 0 p0 |>.set 2 (.slice none 0 0) |>.set 3 p0 |>.set 4 p0 |>.set 5 v1 |>.set 6 p0 |>.set 7 v2 |>.set 8 v3 |>.set 2 v3) H := by kernel_rfl
noncomputable def f145_sh (call : Handle) (k : Nat) (p0 : Value) (H : GH) : M (Value × GH) :=
  onV (oLen Try.prog 60 p0) fun v1 =>
  onV (oLen Try.prog 60 p0) fun v2 =>
  onV (oSlice Try.prog 60 p0 none (some v1) (some v2)) fun v3 =>
  some [(v3, H)]
theorem f145_run (call : Handle) (k : Nat) (p0 : Value) (H : GH) : gCode Try.prog call k (fAt Try.f145 []) ((FF 9 fun _ => undef) |>.set 0 p0) H (hFin Try.prog Try.f145) = f145_sh call k p0 H := by
  unfold f145_sh
  rw [n145_0]
  rw [n145_1]
  rw [s145_0]
  rw [hSeq_n]
  rw [n145_2]
  rw [n145_3]
  rw [s145_1]
  refine onV_c fun v1 => ?_
  refine onV_c fun v2 => ?_
  refine onV_c fun v3 => ?_
  rw [hSeq_n]
  rw [n145_4]
  kernel_rfl
theorem f145_eq (call : Handle) (k : Nat) (p0 : Value) (H : GH) : gFunc Try.prog call k Try.f145 [p0] H = f145_sh call k p0 H :=
  Eq.trans (by kernel_rfl) (f145_run call k p0 H)
end
section
variable {β : Type} {call : Handle} {k : Nat} {a : GA} {K : Kont β} {K' : GA → GH → M β}
variable {d : Nat → Value} {xg : Value}
variable {p0 : Value}
variable {v1 : Value}
variable {H : GH}
theorem n146_0 : gCode Try.prog call k (fAt Try.f146 []) a H K = gCode Try.prog call k (fAt Try.f146 [0]) a H (hSeq (gCode Try.prog call k (fAt Try.f146 [1])) K) := at_seq (by kernel_rfl)
theorem n146_1 : gCode Try.prog call k (fAt Try.f146 [0]) a H K = gOps Try.prog 0 call (opsAt (fAt Try.f146 [0])) ((opsAt (fAt Try.f146 [0])).drop 0) a H (K .normal) := at_region (by kernel_rfl)
theorem n146_2 : gCode Try.prog call k (fAt Try.f146 [1]) a H K = gCode Try.prog call k (fAt Try.f146 [1,0]) a H (hSeq (gCode Try.prog call k (fAt Try.f146 [1,1])) K) := at_seq (by kernel_rfl)
theorem n146_3 : gCode Try.prog call k (fAt Try.f146 [1,0]) a H K = gCode Try.prog call k (fAt Try.f146 [1,0,0]) a H (hSeq (gCode Try.prog call k (fAt Try.f146 [1,0,1])) K) := at_seq (by kernel_rfl)
theorem n146_4 : gCode Try.prog call k (fAt Try.f146 [1,0,0]) a H K = gOps Try.prog 0 call (opsAt (fAt Try.f146 [1,0,0])) ((opsAt (fAt Try.f146 [1,0,0])).drop 0) a H (K .normal) := at_region (by kernel_rfl)
theorem n146_5 : gCode Try.prog call k (fAt Try.f146 [1,0,1]) a H K = onBool (asB (GA.eval a (.tmp 4))) (gCode Try.prog call k (fAt Try.f146 [1,0,1,0]) a H K) (gCode Try.prog call k (fAt Try.f146 [1,0,1,1]) a H K) := at_cond (by kernel_rfl)
theorem n146_6 : gCode Try.prog call k (fAt Try.f146 [1,0,1,0]) a H K = gCode Try.prog call k (fAt Try.f146 [1,0,1,0,0]) a H (hSeq (gCode Try.prog call k (fAt Try.f146 [1,0,1,0,1])) K) := at_seq (by kernel_rfl)
theorem n146_7 : gCode Try.prog call k (fAt Try.f146 [1,0,1,0,0]) a H K = gOps Try.prog 0 call (opsAt (fAt Try.f146 [1,0,1,0,0])) ((opsAt (fAt Try.f146 [1,0,1,0,0])).drop 0) a H (K .normal) := at_region (by kernel_rfl)
theorem n146_8 : gCode Try.prog call k (fAt Try.f146 [1,0,1,0,1]) a H K = K .ret a H := at_ret (by kernel_rfl)
theorem n146_9 : gCode Try.prog call k (fAt Try.f146 [1,0,1,1]) a H K = K .normal a H := at_skip (by kernel_rfl)
theorem n146_10 : gCode Try.prog call k (fAt Try.f146 [1,1]) a H K = gCode Try.prog call k (fAt Try.f146 [1,1,0]) a H (hSeq (gCode Try.prog call k (fAt Try.f146 [1,1,1])) K) := at_seq (by kernel_rfl)
theorem n146_11 : gCode Try.prog call k (fAt Try.f146 [1,1,0]) a H K = gOps Try.prog 0 call (opsAt (fAt Try.f146 [1,1,0])) ((opsAt (fAt Try.f146 [1,1,0])).drop 0) a H (K .normal) := at_region (by kernel_rfl)
theorem n146_12 : gCode Try.prog call k (fAt Try.f146 [1,1,1]) a H K = K .ret a H := at_ret (by kernel_rfl)
theorem s146_0 : gOps Try.prog 0 call (opsAt (fAt Try.f146 [0])) ((opsAt (fAt Try.f146 [0])).drop 0) ((FF 8 fun _ => undef) |>.set 0 p0) H K' =
  K' ((FF 8 fun _ => undef) |>.set 0 p0 |>.set 2 (.slice none 0 0)) H := by kernel_rfl
theorem s146_1 : gOps Try.prog 0 call (opsAt (fAt Try.f146 [1,0,0])) ((opsAt (fAt Try.f146 [1,0,0])).drop 0) ((FF 8 fun _ => undef) |>.set 0 p0 |>.set 2 (.slice none 0 0)) H K' =
  onV ((oBin Try.prog .eql 60 p0 (.slice none 0 0)).filter closed) fun v1 =>
  K' ((FF 8 fun _ => undef) |>.set 0 p0 |>.set 2 (.slice none 0 0) |>.set 3 p0 |>.set 4 v1) H := by kernel_rfl
theorem s146_2 : gOps Try.prog 0 call (opsAt (fAt Try.f146 [1,0,1,0,0])) ((opsAt (fAt Try.f146 [1,0,1,0,0])).drop 0) ((FF 8 fun _ => undef) |>.set 0 p0 |>.set 2 (.slice none 0 0) |>.set 3 p0 |>.set 4 v1) H K' =
  K' ((FF 8 fun _ => undef) |>.set 0 p0 |>.set 2 (.slice none 0 0) |>.set 3 p0 |>.set 4 v1 |>.set 2 (.slice none 0 0)) H := by kernel_rfl
theorem s146_3 : gOps Try.prog 0 call (opsAt (fAt Try.f146 [1,1,0])) ((opsAt (fAt Try.f146 [1,1,0])).drop 0) ((FF 8 fun _ => undef) |>.set 0 p0 |>.set 2 (.slice none 0 0) |>.set 3 p0 |>.set 4 v1) H K' =
  onVH (gBuildSlice Try.prog 60 0 [] H) fun v2 H3 =>
  onVH (gAppend Try.prog 60 60 v2 p0 H3) fun v4 H5 =>
  K' ((FF 8 fun _ => undef) |>.set 0 p0 |>.set 2 (.slice none 0 0) |>.set 3 p0 |>.set 4 v1 |>.set 5 v2 |>.set 6 p0 |>.set 7 v4 |>.set 2 v4) H5 := by kernel_rfl
noncomputable def f146_sh (call : Handle) (k : Nat) (p0 : Value) (H : GH) : M (Value × GH) :=
  onV ((oBin Try.prog .eql 60 p0 (.slice none 0 0)).filter closed) fun v1 =>
  onBool (asB v1)
  (some [((.slice none 0 0), H)])
  (onVH (gBuildSlice Try.prog 60 0 [] H) fun v2 H3 =>
  onVH (gAppend Try.prog 60 60 v2 p0 H3) fun v4 H5 =>
  some [(v4, H5)])
theorem f146_run (call : Handle) (k : Nat) (p0 : Value) (H : GH) : gCode Try.prog call k (fAt Try.f146 []) ((FF 8 fun _ => undef) |>.set 0 p0) H (hFin Try.prog Try.f146) = f146_sh call k p0 H := by
  unfold f146_sh
  rw [n146_0]
  rw [n146_1]
  rw [s146_0]
  rw [hSeq_n]
  rw [n146_2]
  rw [n146_3]
  rw [n146_4]
  rw [s146_1]
  refine onV_c fun v1 => ?_
  rw [hSeq_n]
  rw [n146_5]
  refine onBool_cc (by kernel_rfl) ?_ ?_
  · rw [n146_6]
    rw [n146_7]
    rw [s146_2]
    rw [hSeq_n]
    rw [n146_8]
    rw [hSeq_r]
    kernel_rfl
  · rw [n146_9]
    rw [hSeq_n]
    rw [n146_10]
    rw [n146_11]
    rw [s146_3]
    refine onVH_c fun v2 H3 => ?_
    refine onVH_c fun v4 H5 => ?_
    rw [hSeq_n]
    rw [n146_12]
    kernel_rfl
theorem f146_eq (call : Handle) (k : Nat) (p0 : Value) (H : GH) : gFunc Try.prog call k Try.f146 [p0] H = f146_sh call k p0 H :=
  Eq.trans (by kernel_rfl) (f146_run call k p0 H)
end
section
variable {β : Type} {call : Handle} {k : Nat} {a : GA} {K : Kont β} {K' : GA → GH → M β}
variable {d : Nat → Value} {xg : Value}
variable {p0 p1 : Value}
variable {v1 v2 v3 v4 : Value}
variable {H H5 : GH}
theorem n173_0 : gCode Try.prog call k (fAt Try.f173 []) a H K = gCode Try.prog call k (fAt Try.f173 [0]) a H (hSeq (gCode Try.prog call k (fAt Try.f173 [1])) K) := at_seq (by kernel_rfl)
theorem n173_1 : gCode Try.prog call k (fAt Try.f173 [0]) a H K = gOps Try.prog 0 call (opsAt (fAt Try.f173 [0])) ((opsAt (fAt Try.f173 [0])).drop 0) a H (K .normal) := at_region (by kernel_rfl)
theorem n173_2 : gCode Try.prog call k (fAt Try.f173 [1]) a H K = gCode Try.prog call k (fAt Try.f173 [1,0]) a H (hSeq (gCode Try.prog call k (fAt Try.f173 [1,1])) K) := at_seq (by kernel_rfl)
theorem n173_3 : gCode Try.prog call k (fAt Try.f173 [1,0]) a H K = gCode Try.prog call k (fAt Try.f173 [1,0,0]) a H (hSeq (gCode Try.prog call k (fAt Try.f173 [1,0,1])) K) := at_seq (by kernel_rfl)
theorem n173_4 : gCode Try.prog call k (fAt Try.f173 [1,0,0]) a H K = gOps Try.prog 0 call (opsAt (fAt Try.f173 [1,0,0])) ((opsAt (fAt Try.f173 [1,0,0])).drop 0) a H (K .normal) := at_region (by kernel_rfl)
theorem n173_5 : gCode Try.prog call k (fAt Try.f173 [1,0,1]) a H K = gCode Try.prog call k (fAt Try.f173 [1,0,1,0]) a H (hBlock 0 K) := at_block (by kernel_rfl)
theorem n173_6 : gCode Try.prog call k (fAt Try.f173 [1,0,1,0]) a H K = gLoop (gCode Try.prog call k (fAt Try.f173 [1,0,1,0,0])) K k a H := at_loop (by kernel_rfl)
theorem n173_7 : gCode Try.prog call k (fAt Try.f173 [1,0,1,0,0]) a H K = gCode Try.prog call k (fAt Try.f173 [1,0,1,0,0,0]) a H (hSeq (gCode Try.prog call k (fAt Try.f173 [1,0,1,0,0,1])) K) := at_seq (by kernel_rfl)
theorem n173_8 : gCode Try.prog call k (fAt Try.f173 [1,0,1,0,0,0]) a H K = gOps Try.prog 0 call (opsAt (fAt Try.f173 [1,0,1,0,0,0])) ((opsAt (fAt Try.f173 [1,0,1,0,0,0])).drop 0) a H (K .normal) := at_region (by kernel_rfl)
theorem n173_9 : gCode Try.prog call k (fAt Try.f173 [1,0,1,0,0,1]) a H K = gCode Try.prog call k (fAt Try.f173 [1,0,1,0,0,1,0]) a H (hSeq (gCode Try.prog call k (fAt Try.f173 [1,0,1,0,0,1,1])) K) := at_seq (by kernel_rfl)
theorem n173_10 : gCode Try.prog call k (fAt Try.f173 [1,0,1,0,0,1,0]) a H K = onBool (asB (GA.eval a (.tmp 9))) (gCode Try.prog call k (fAt Try.f173 [1,0,1,0,0,1,0,0]) a H K) (gCode Try.prog call k (fAt Try.f173 [1,0,1,0,0,1,0,1]) a H K) := at_cond (by kernel_rfl)
theorem n173_11 : gCode Try.prog call k (fAt Try.f173 [1,0,1,0,0,1,0,0]) a H K = K .normal a H := at_skip (by kernel_rfl)
theorem n173_12 : gCode Try.prog call k (fAt Try.f173 [1,0,1,0,0,1,1]) a H K = gCode Try.prog call k (fAt Try.f173 [1,0,1,0,0,1,1,0]) a H (hSeq (gCode Try.prog call k (fAt Try.f173 [1,0,1,0,0,1,1,1])) K) := at_seq (by kernel_rfl)
theorem n173_13 : gCode Try.prog call k (fAt Try.f173 [1,0,1,0,0,1,1,0]) a H K = gCode Try.prog call k (fAt Try.f173 [1,0,1,0,0,1,1,0,0]) a H (hBlock 1 K) := at_block (by kernel_rfl)
theorem n173_14 : gCode Try.prog call k (fAt Try.f173 [1,0,1,0,0,1,1,0,0]) a H K = gCode Try.prog call k (fAt Try.f173 [1,0,1,0,0,1,1,0,0,0]) a H (hSeq (gCode Try.prog call k (fAt Try.f173 [1,0,1,0,0,1,1,0,0,1])) K) := at_seq (by kernel_rfl)
theorem n173_15 : gCode Try.prog call k (fAt Try.f173 [1,0,1,0,0,1,1,0,0,0]) a H K = gOps Try.prog 0 call (opsAt (fAt Try.f173 [1,0,1,0,0,1,1,0,0,0])) ((opsAt (fAt Try.f173 [1,0,1,0,0,1,1,0,0,0])).drop 0) a H (K .normal) := at_region (by kernel_rfl)
theorem n173_16 : gCode Try.prog call k (fAt Try.f173 [1,0,1,0,0,1,1,0,0,1]) a H K = gCode Try.prog call k (fAt Try.f173 [1,0,1,0,0,1,1,0,0,1,0]) a H (hSeq (gCode Try.prog call k (fAt Try.f173 [1,0,1,0,0,1,1,0,0,1,1])) K) := at_seq (by kernel_rfl)
theorem n173_17 : gCode Try.prog call k (fAt Try.f173 [1,0,1,0,0,1,1,0,0,1,0]) a H K = gOps Try.prog 0 call (opsAt (fAt Try.f173 [1,0,1,0,0,1,1,0,0,1,0])) ((opsAt (fAt Try.f173 [1,0,1,0,0,1,1,0,0,1,0])).drop 0) a H (K .normal) := at_region (by kernel_rfl)
theorem n173_18 : gCode Try.prog call k (fAt Try.f173 [1,0,1,0,0,1,1,0,0,1,1]) a H K = onBool (asB (GA.eval a (.tmp 16))) (gCode Try.prog call k (fAt Try.f173 [1,0,1,0,0,1,1,0,0,1,1,0]) a H K) (gCode Try.prog call k (fAt Try.f173 [1,0,1,0,0,1,1,0,0,1,1,1]) a H K) := at_cond (by kernel_rfl)
theorem n173_19 : gCode Try.prog call k (fAt Try.f173 [1,0,1,0,0,1,1,0,0,1,1,0]) a H K = gCode Try.prog call k (fAt Try.f173 [1,0,1,0,0,1,1,0,0,1,1,0,0]) a H (hSeq (gCode Try.prog call k (fAt Try.f173 [1,0,1,0,0,1,1,0,0,1,1,0,1])) K) := at_seq (by kernel_rfl)
theorem n173_20 : gCode Try.prog call k (fAt Try.f173 [1,0,1,0,0,1,1,0,0,1,1,0,0]) a H K = gOps Try.prog 0 call (opsAt (fAt Try.f173 [1,0,1,0,0,1,1,0,0,1,1,0,0])) ((opsAt (fAt Try.f173 [1,0,1,0,0,1,1,0,0,1,1,0,0])).drop 0) a H (K .normal) := at_region (by kernel_rfl)
theorem n173_21 : gCode Try.prog call k (fAt Try.f173 [1,0,1,0,0,1,1,0,0,1,1,0,1]) a H K = K .ret a H := at_ret (by kernel_rfl)
theorem n173_22 : gCode Try.prog call k (fAt Try.f173 [1,0,1,0,0,1,1,0,0,1,1,1]) a H K = K .normal a H := at_skip (by kernel_rfl)
theorem n173_23 : gCode Try.prog call k (fAt Try.f173 [1,0,1,0,0,1,1,1]) a H K = gOps Try.prog 0 call (opsAt (fAt Try.f173 [1,0,1,0,0,1,1,1])) ((opsAt (fAt Try.f173 [1,0,1,0,0,1,1,1])).drop 0) a H (K .normal) := at_region (by kernel_rfl)
theorem n173_24 : gCode Try.prog call k (fAt Try.f173 [1,0,1,0,0,1,0,1]) a H K = K (.exit 0) a H := at_exit (by kernel_rfl)
theorem n173_25 : gCode Try.prog call k (fAt Try.f173 [1,1]) a H K = gCode Try.prog call k (fAt Try.f173 [1,1,0]) a H (hSeq (gCode Try.prog call k (fAt Try.f173 [1,1,1])) K) := at_seq (by kernel_rfl)
theorem n173_26 : gCode Try.prog call k (fAt Try.f173 [1,1,0]) a H K = gOps Try.prog 0 call (opsAt (fAt Try.f173 [1,1,0])) ((opsAt (fAt Try.f173 [1,1,0])).drop 0) a H (K .normal) := at_region (by kernel_rfl)
theorem n173_27 : gCode Try.prog call k (fAt Try.f173 [1,1,1]) a H K = K .ret a H := at_ret (by kernel_rfl)
theorem s173_0 : gOps Try.prog 0 call (opsAt (fAt Try.f173 [0])) ((opsAt (fAt Try.f173 [0])).drop 0) ((FF 19 fun _ => undef) |>.set 0 p0 |>.set 1 p1) H K' =
  K' ((FF 19 fun _ => undef) |>.set 0 p0 |>.set 1 p1 |>.set 4 (.int .i64 0)) H := by kernel_rfl
theorem s173_1 : gOps Try.prog 0 call (opsAt (fAt Try.f173 [1,0,0])) ((opsAt (fAt Try.f173 [1,0,0])).drop 0) ((FF 19 fun _ => undef) |>.set 0 p0 |>.set 1 p1 |>.set 4 (.int .i64 0)) H K' =
  onV (oLen Try.prog 60 p0) fun v1 =>
  K' ((FF 19 fun _ => undef) |>.set 0 p0 |>.set 1 p1 |>.set 4 (.int .i64 0) |>.set 6 p0 |>.set 7 v1 |>.set 8 (.int .i64 0)) H := by kernel_rfl
theorem s173_2 : gOps Try.prog 0 call (opsAt (fAt Try.f173 [1,0,1,0,0,0])) ((opsAt (fAt Try.f173 [1,0,1,0,0,0])).drop 0) (FF 19 d) H K' =
  onV ((oBin Try.prog .lss 3 (d 8) (d 7)).filter closed) fun v1 =>
  K' ((FF 19 d) |>.set 9 v1) H := by kernel_rfl
theorem s173_3 : gOps Try.prog 0 call (opsAt (fAt Try.f173 [1,0,1,0,0,1,1,0,0,0])) ((opsAt (fAt Try.f173 [1,0,1,0,0,1,1,0,0,0])).drop 0) ((FF 19 d) |>.set 9 v1) H K' =
  K' ((FF 19 d) |>.set 9 v1 |>.set 10 (d 8) |>.set 5 (d 8)) H := by kernel_rfl
theorem s173_4 : gOps Try.prog 0 call (opsAt (fAt Try.f173 [1,0,1,0,0,1,1,0,0,1,0])) ((opsAt (fAt Try.f173 [1,0,1,0,0,1,1,0,0,1,0])).drop 0) ((FF 19 d) |>.set 9 v1 |>.set 10 (d 8) |>.set 5 (d 8)) H K' =
  onV (oIndexAddr Try.prog 60 (d 0) (d 8)) fun v2 =>
  onV (gLoad Try.prog 157 v2 H) fun v3 =>
  onCall 0 call (d 1) [v3] H fun v4 H5 =>
  K' ((FF 19 d) |>.set 9 v1 |>.set 10 (d 8) |>.set 5 (d 8) |>.set 11 (d 1) |>.set 12 (d 0) |>.set 13 (d 8) |>.set 14 v2 |>.set 15 v3 |>.set 16 v4) H5 := by kernel_rfl
theorem s173_5 : gOps Try.prog 0 call (opsAt (fAt Try.f173 [1,0,1,0,0,1,1,0,0,1,1,0,0])) ((opsAt (fAt Try.f173 [1,0,1,0,0,1,1,0,0,1,1,0,0])).drop 0) ((FF 19 d) |>.set 9 v1 |>.set 10 (d 8) |>.set 5 (d 8) |>.set 11 (d 1) |>.set 12 (d 0) |>.set 13 (d 8) |>.set 14 v2 |>.set 15 v3 |>.set 16 v4) H5 K' =
  K' ((FF 19 d) |>.set 9 v1 |>.set 10 (d 8) |>.set 5 (d 8) |>.set 11 (d 1) |>.set 12 (d 0) |>.set 13 (d 8) |>.set 14 v2 |>.set 15 v3 |>.set 16 v4 |>.set 17 (d 8) |>.set 4 (d 8)) H5 := by kernel_rfl
theorem s173_6 : gOps Try.prog 0 call (opsAt (fAt Try.f173 [1,0,1,0,0,1,1,1])) ((opsAt (fAt Try.f173 [1,0,1,0,0,1,1,1])).drop 0) ((FF 19 d) |>.set 9 v1 |>.set 10 (d 8) |>.set 5 (d 8) |>.set 11 (d 1) |>.set 12 (d 0) |>.set 13 (d 8) |>.set 14 v2 |>.set 15 v3 |>.set 16 v4) H5 K' =
  onV ((oBin Try.prog .add 3 (d 8) (.int .i64 1)).filter closed) fun v6 =>
  K' ((FF 19 d) |>.set 9 v1 |>.set 10 (d 8) |>.set 5 (d 8) |>.set 11 (d 1) |>.set 12 (d 0) |>.set 13 (d 8) |>.set 14 v2 |>.set 15 v3 |>.set 16 v4 |>.set 18 v6 |>.set 8 v6) H5 := by kernel_rfl
theorem s173_7 : gOps Try.prog 0 call (opsAt (fAt Try.f173 [1,1,0])) ((opsAt (fAt Try.f173 [1,1,0])).drop 0) ((FF 19 d) |>.set 9 v1) H K' =
  K' ((FF 19 d) |>.set 9 v1 |>.set 4 (.int .i64 (-1))) H := by kernel_rfl
def f173_l2_P (ag : GA → GH → M (Value × GH)) (sg : Value → Value → Value → Value → GH → M (Value × GH)) : Prop := ∀ (d : Nat → Value) (H : GH), ag (FF 19 d) H = sg (d 0) (d 1) (d 7) (d 8) H
theorem f173_l2_at {ag : GA → GH → M (Value × GH)} {sg : Value → Value → Value → Value → GH → M (Value × GH)} (h : f173_l2_P ag sg) : ag (FF 19 d) H = sg (d 0) (d 1) (d 7) (d 8) H := h d H
noncomputable def f173_l2b (call : Handle) (k : Nat) (sg_l2 : Value → Value → Value → Value → GH → M (Value × GH)) (x0 x1 x7 x8 : Value) (H : GH) : M (Value × GH) :=
  onV ((oBin Try.prog .lss 3 x8 x7).filter closed) fun v1 =>
  onBool (asB v1)
  (onV (oIndexAddr Try.prog 60 x0 x8) fun v2 =>
  onV (gLoad Try.prog 157 v2 H) fun v3 =>
  onCall 0 call x1 [v3] H fun v4 H5 =>
  onBool (asB v4)
  (some [(x8, H5)])
  (onV ((oBin Try.prog .add 3 x8 (.int .i64 1)).filter closed) fun v6 =>
  (sg_l2 x0 x1 x7 v6 H5)))
  (some [((.int .i64 (-1)), H)])
theorem f173_l2b_eq (call : Handle) (k : Nat) (ag_l2 : GA → GH → M (Value × GH)) (sg_l2 : Value → Value → Value → Value → GH → M (Value × GH)) (h_l2 : f173_l2_P ag_l2 sg_l2) : gCode Try.prog call k (fAt Try.f173 [1,0,1,0,0]) (FF 19 d) H (hLoop ag_l2 (hBlock 0 (hSeq (gCode Try.prog call k (fAt Try.f173 [1,1])) (hFin Try.prog Try.f173)))) = f173_l2b call k sg_l2 (d 0) (d 1) (d 7) (d 8) H := by
  unfold f173_l2b
  rw [n173_7]
  rw [n173_8]
  rw [s173_2]
  refine onV_c fun v1 => ?_
  rw [hSeq_n]
  rw [n173_9]
  rw [n173_10]
  refine onBool_cc (by kernel_rfl) ?_ ?_
  · rw [n173_11]
    rw [hSeq_n]
    rw [n173_12]
    rw [n173_13]
    rw [n173_14]
    rw [n173_15]
    rw [s173_3]
    rw [hSeq_n]
    rw [n173_16]
    rw [n173_17]
    rw [s173_4]
    refine onV_c fun v2 => ?_
    refine onV_c fun v3 => ?_
    refine onCall_c fun v4 H5 => ?_
    rw [hSeq_n]
    rw [n173_18]
    refine onBool_cc (by kernel_rfl) ?_ ?_
    · rw [n173_19]
      rw [n173_20]
      rw [s173_5]
      rw [hSeq_n]
      rw [n173_21]
      rw [hBlock_r, hSeq_r, hLoop_r, hBlock_r, hSeq_r]
      kernel_rfl
    · rw [n173_22]
      rw [hBlock_n]
      rw [hSeq_n]
      rw [n173_23]
      rw [s173_6]
      refine onV_c fun v6 => ?_
      rw [hLoop_n]
      rw [show ((FF 19 d) |>.set 9 v1 |>.set 10 (d 8) |>.set 5 (d 8) |>.set 11 (d 1) |>.set 12 (d 0) |>.set 13 (d 8) |>.set 14 v2 |>.set 15 v3 |>.set 16 v4 |>.set 18 v6 |>.set 8 v6) = (FF 19 (gf ((FF 19 d) |>.set 9 v1 |>.set 10 (d 8) |>.set 5 (d 8) |>.set 11 (d 1) |>.set 12 (d 0) |>.set 13 (d 8) |>.set 14 v2 |>.set 15 v3 |>.set 16 v4 |>.set 18 v6 |>.set 8 v6))) from by kernel_rfl]
      exact (f173_l2_at (d := gf ((FF 19 d) |>.set 9 v1 |>.set 10 (d 8) |>.set 5 (d 8) |>.set 11 (d 1) |>.set 12 (d 0) |>.set 13 (d 8) |>.set 14 v2 |>.set 15 v3 |>.set 16 v4 |>.set 18 v6 |>.set 8 v6)) h_l2).trans (by kernel_rfl)
  · rw [n173_24]
    rw [hSeq_e, hLoop_e, hBlock_hit]
    rw [hSeq_n]
    rw [n173_25]
    rw [n173_26]
    rw [s173_7]
    rw [hSeq_n]
    rw [n173_27]
    kernel_rfl
noncomputable def f173_l2 (call : Handle) (k : Nat) : Nat → Value → Value → Value → Value → GH → M (Value × GH)
  | 0, _, _, _, _, _ => none
  | r + 1, x0, x1, x7, x8, H => f173_l2b call k (f173_l2 call k r) x0 x1 x7 x8 H
theorem f173_l2_eq (call : Handle) (k : Nat) : ∀ (r : Nat), f173_l2_P (gLoop (gCode Try.prog call k (fAt Try.f173 [1,0,1,0,0])) (hBlock 0 (hSeq (gCode Try.prog call k (fAt Try.f173 [1,1])) (hFin Try.prog Try.f173))) r) (f173_l2 call k r) := by
  intro r
  induction r with
  | zero => unfold f173_l2_P; intros; rfl
  | succ r ih => unfold f173_l2_P; intros; exact f173_l2b_eq call k _ _ ih
noncomputable def f173_sh (call : Handle) (k : Nat) (p0 p1 : Value) (H : GH) : M (Value × GH) :=
  onV (oLen Try.prog 60 p0) fun v1 =>
  (f173_l2 call k k p0 p1 v1 (.int .i64 0) H)
theorem f173_run (call : Handle) (k : Nat) (p0 p1 : Value) (H : GH) : gCode Try.prog call k (fAt Try.f173 []) ((FF 19 fun _ => undef) |>.set 0 p0 |>.set 1 p1) H (hFin Try.prog Try.f173) = f173_sh call k p0 p1 H := by
  unfold f173_sh
  rw [n173_0]
  rw [n173_1]
  rw [s173_0]
  rw [hSeq_n]
  rw [n173_2]
  rw [n173_3]
  rw [n173_4]
  rw [s173_1]
  refine onV_c fun v1 => ?_
  rw [hSeq_n]
  rw [n173_5]
  rw [n173_6]
  rw [show ((FF 19 fun _ => undef) |>.set 0 p0 |>.set 1 p1 |>.set 4 (.int .i64 0) |>.set 6 p0 |>.set 7 v1 |>.set 8 (.int .i64 0)) = (FF 19 (gf ((FF 19 fun _ => undef) |>.set 0 p0 |>.set 1 p1 |>.set 4 (.int .i64 0) |>.set 6 p0 |>.set 7 v1 |>.set 8 (.int .i64 0)))) from by kernel_rfl]
  exact (f173_l2_at (d := gf ((FF 19 fun _ => undef) |>.set 0 p0 |>.set 1 p1 |>.set 4 (.int .i64 0) |>.set 6 p0 |>.set 7 v1 |>.set 8 (.int .i64 0))) (f173_l2_eq call k k)).trans (by kernel_rfl)
theorem f173_eq (call : Handle) (k : Nat) (p0 p1 : Value) (H : GH) : gFunc Try.prog call k Try.f173 [p0, p1] H = f173_sh call k p0 p1 H :=
  Eq.trans (by kernel_rfl) (f173_run call k p0 p1 H)
end
section
variable {β : Type} {call : Handle} {k : Nat} {a : GA} {K : Kont β} {K' : GA → GH → M β}
variable {d : Nat → Value} {xg : Value}
variable {p0 : Value}
variable {v1 v2 : Value}
variable {H H3 H6 : GH}
theorem n174_0 : gCode Try.prog call k (fAt Try.f174 []) a H K = gCode Try.prog call k (fAt Try.f174 [0]) a H (hSeq (gCode Try.prog call k (fAt Try.f174 [1])) K) := at_seq (by kernel_rfl)
theorem n174_1 : gCode Try.prog call k (fAt Try.f174 [0]) a H K = gOps Try.prog 0 call (opsAt (fAt Try.f174 [0])) ((opsAt (fAt Try.f174 [0])).drop 0) a H (K .normal) := at_region (by kernel_rfl)
theorem n174_2 : gCode Try.prog call k (fAt Try.f174 [1]) a H K = gCode Try.prog call k (fAt Try.f174 [1,0]) a H (hSeq (gCode Try.prog call k (fAt Try.f174 [1,1])) K) := at_seq (by kernel_rfl)
theorem n174_3 : gCode Try.prog call k (fAt Try.f174 [1,0]) a H K = gCode Try.prog call k (fAt Try.f174 [1,0,0]) a H (hSeq (gCode Try.prog call k (fAt Try.f174 [1,0,1])) K) := at_seq (by kernel_rfl)
theorem n174_4 : gCode Try.prog call k (fAt Try.f174 [1,0,0]) a H K = gOps Try.prog 0 call (opsAt (fAt Try.f174 [1,0,0])) ((opsAt (fAt Try.f174 [1,0,0])).drop 0) a H (K .normal) := at_region (by kernel_rfl)
theorem n174_5 : gCode Try.prog call k (fAt Try.f174 [1,0,1]) a H K = onBool (asB (GA.eval a (.tmp 5))) (gCode Try.prog call k (fAt Try.f174 [1,0,1,0]) a H K) (gCode Try.prog call k (fAt Try.f174 [1,0,1,1]) a H K) := at_cond (by kernel_rfl)
theorem n174_6 : gCode Try.prog call k (fAt Try.f174 [1,0,1,0]) a H K = gOps Try.prog 0 call (opsAt (fAt Try.f174 [1,0,1,0])) ((opsAt (fAt Try.f174 [1,0,1,0])).drop 0) a H (K .normal) := at_region (by kernel_rfl)
theorem n174_7 : gCode Try.prog call k (fAt Try.f174 [1,1]) a H K = gCode Try.prog call k (fAt Try.f174 [1,1,0]) a H (hSeq (gCode Try.prog call k (fAt Try.f174 [1,1,1])) K) := at_seq (by kernel_rfl)
theorem n174_8 : gCode Try.prog call k (fAt Try.f174 [1,1,0]) a H K = gOps Try.prog 0 call (opsAt (fAt Try.f174 [1,1,0])) ((opsAt (fAt Try.f174 [1,1,0])).drop 0) a H (K .normal) := at_region (by kernel_rfl)
theorem n174_9 : gCode Try.prog call k (fAt Try.f174 [1,1,1]) a H K = K .ret a H := at_ret (by kernel_rfl)
theorem n174_10 : gCode Try.prog call k (fAt Try.f174 [1,0,1,1]) a H K = gOps Try.prog 0 call (opsAt (fAt Try.f174 [1,0,1,1])) ((opsAt (fAt Try.f174 [1,0,1,1])).drop 0) a H (K .normal) := at_region (by kernel_rfl)
theorem s174_0 : gOps Try.prog 0 call (opsAt (fAt Try.f174 [0])) ((opsAt (fAt Try.f174 [0])).drop 0) ((FF 9 fun _ => undef) |>.set 0 p0) H K' =
  K' ((FF 9 fun _ => undef) |>.set 0 p0 |>.set 1 (.pointer (some ⟨H.n, 0, none⟩)) |>.set 2 (.pointer (some ⟨(GH.push H (.row (Value.cells p0).toList 157 false)).n, 0, none⟩))) (GH.push (GH.push H (.row (Value.cells p0).toList 157 false)) (.row [(.int .u8 0), (.int .i64 0), (.bool false), (.int .u8 0)] 157 false)) := by kernel_rfl
theorem s174_1 : gOps Try.prog 0 call (opsAt (fAt Try.f174 [1,0,0])) ((opsAt (fAt Try.f174 [1,0,0])).drop 0) ((FF 9 fun _ => undef) |>.set 0 p0 |>.set 1 (.pointer (some ⟨H.n, 0, none⟩)) |>.set 2 (.pointer (some ⟨(GH.push H (.row (Value.cells p0).toList 157 false)).n, 0, none⟩))) (GH.push (GH.push H (.row (Value.cells p0).toList 157 false)) (.row [(.int .u8 0), (.int .i64 0), (.bool false), (.int .u8 0)] 157 false)) K' =
  onV (gLoad Try.prog 155 (.pointer (some ⟨H.n, 3, none⟩)) (GH.push (GH.push H (.row (Value.cells p0).toList 157 false)) (.row [(.int .u8 0), (.int .i64 0), (.bool false), (.int .u8 0)] 157 false))) fun v1 =>
  onV ((oBin Try.prog .eql 155 v1 (.int .u8 1)).filter closed) fun v2 =>
  K' ((FF 9 fun _ => undef) |>.set 0 p0 |>.set 1 (.pointer (some ⟨H.n, 0, none⟩)) |>.set 2 (.pointer (some ⟨(GH.push H (.row (Value.cells p0).toList 157 false)).n, 0, none⟩)) |>.set 3 (.pointer (some ⟨H.n, 3, none⟩)) |>.set 4 v1 |>.set 5 v2) (GH.push (GH.push H (.row (Value.cells p0).toList 157 false)) (.row [(.int .u8 0), (.int .i64 0), (.bool false), (.int .u8 0)] 157 false)) := by kernel_rfl
theorem s174_2 : gOps Try.prog 0 call (opsAt (fAt Try.f174 [1,0,1,0])) ((opsAt (fAt Try.f174 [1,0,1,0])).drop 0) ((FF 9 fun _ => undef) |>.set 0 p0 |>.set 1 (.pointer (some ⟨H.n, 0, none⟩)) |>.set 2 (.pointer (some ⟨(GH.push H (.row (Value.cells p0).toList 157 false)).n, 0, none⟩)) |>.set 3 (.pointer (some ⟨H.n, 3, none⟩)) |>.set 4 v1 |>.set 5 v2) (GH.push (GH.push H (.row (Value.cells p0).toList 157 false)) (.row [(.int .u8 0), (.int .i64 0), (.bool false), (.int .u8 0)] 157 false)) K' =
  onH (gStore Try.prog 155 (.pointer (some ⟨H.n, 3, none⟩)) (.int .u8 0) (GH.push (GH.push H (.row (Value.cells p0).toList 157 false)) (.row [(.int .u8 0), (.int .i64 0), (.bool false), (.int .u8 0)] 157 false))) fun H3 =>
  K' ((FF 9 fun _ => undef) |>.set 0 p0 |>.set 1 (.pointer (some ⟨H.n, 0, none⟩)) |>.set 2 (.pointer (some ⟨(GH.push H (.row (Value.cells p0).toList 157 false)).n, 0, none⟩)) |>.set 3 (.pointer (some ⟨H.n, 3, none⟩)) |>.set 4 v1 |>.set 5 v2 |>.set 6 (.pointer (some ⟨H.n, 3, none⟩))) H3 := by kernel_rfl
theorem s174_3 : gOps Try.prog 0 call (opsAt (fAt Try.f174 [1,1,0])) ((opsAt (fAt Try.f174 [1,1,0])).drop 0) ((FF 9 fun _ => undef) |>.set 0 p0 |>.set 1 (.pointer (some ⟨H.n, 0, none⟩)) |>.set 2 (.pointer (some ⟨(GH.push H (.row (Value.cells p0).toList 157 false)).n, 0, none⟩)) |>.set 3 (.pointer (some ⟨H.n, 3, none⟩)) |>.set 4 v1 |>.set 5 v2 |>.set 6 (.pointer (some ⟨H.n, 3, none⟩))) H3 K' =
  onV (gLoad Try.prog 157 (.pointer (some ⟨H.n, 0, none⟩)) H3) fun v4 =>
  onH (gStore Try.prog 157 (.pointer (some ⟨(GH.push H (.row (Value.cells p0).toList 157 false)).n, 0, none⟩)) v4 H3) fun H5 =>
  K' ((FF 9 fun _ => undef) |>.set 0 p0 |>.set 1 (.pointer (some ⟨H.n, 0, none⟩)) |>.set 2 (.pointer (some ⟨(GH.push H (.row (Value.cells p0).toList 157 false)).n, 0, none⟩)) |>.set 3 (.pointer (some ⟨H.n, 3, none⟩)) |>.set 4 v1 |>.set 5 v2 |>.set 6 (.pointer (some ⟨H.n, 3, none⟩)) |>.set 8 v4) H5 := by kernel_rfl
theorem s174_4 : gOps Try.prog 0 call (opsAt (fAt Try.f174 [1,0,1,1])) ((opsAt (fAt Try.f174 [1,0,1,1])).drop 0) ((FF 9 fun _ => undef) |>.set 0 p0 |>.set 1 (.pointer (some ⟨H.n, 0, none⟩)) |>.set 2 (.pointer (some ⟨(GH.push H (.row (Value.cells p0).toList 157 false)).n, 0, none⟩)) |>.set 3 (.pointer (some ⟨H.n, 3, none⟩)) |>.set 4 v1 |>.set 5 v2) (GH.push (GH.push H (.row (Value.cells p0).toList 157 false)) (.row [(.int .u8 0), (.int .i64 0), (.bool false), (.int .u8 0)] 157 false)) K' =
  onH (gStore Try.prog 155 (.pointer (some ⟨H.n, 3, none⟩)) (.int .u8 1) (GH.push (GH.push H (.row (Value.cells p0).toList 157 false)) (.row [(.int .u8 0), (.int .i64 0), (.bool false), (.int .u8 0)] 157 false))) fun H6 =>
  K' ((FF 9 fun _ => undef) |>.set 0 p0 |>.set 1 (.pointer (some ⟨H.n, 0, none⟩)) |>.set 2 (.pointer (some ⟨(GH.push H (.row (Value.cells p0).toList 157 false)).n, 0, none⟩)) |>.set 3 (.pointer (some ⟨H.n, 3, none⟩)) |>.set 4 v1 |>.set 5 v2 |>.set 7 (.pointer (some ⟨H.n, 3, none⟩))) H6 := by kernel_rfl
theorem s174_5 : gOps Try.prog 0 call (opsAt (fAt Try.f174 [1,1,0])) ((opsAt (fAt Try.f174 [1,1,0])).drop 0) ((FF 9 fun _ => undef) |>.set 0 p0 |>.set 1 (.pointer (some ⟨H.n, 0, none⟩)) |>.set 2 (.pointer (some ⟨(GH.push H (.row (Value.cells p0).toList 157 false)).n, 0, none⟩)) |>.set 3 (.pointer (some ⟨H.n, 3, none⟩)) |>.set 4 v1 |>.set 5 v2 |>.set 7 (.pointer (some ⟨H.n, 3, none⟩))) H6 K' =
  onV (gLoad Try.prog 157 (.pointer (some ⟨H.n, 0, none⟩)) H6) fun v7 =>
  onH (gStore Try.prog 157 (.pointer (some ⟨(GH.push H (.row (Value.cells p0).toList 157 false)).n, 0, none⟩)) v7 H6) fun H8 =>
  K' ((FF 9 fun _ => undef) |>.set 0 p0 |>.set 1 (.pointer (some ⟨H.n, 0, none⟩)) |>.set 2 (.pointer (some ⟨(GH.push H (.row (Value.cells p0).toList 157 false)).n, 0, none⟩)) |>.set 3 (.pointer (some ⟨H.n, 3, none⟩)) |>.set 4 v1 |>.set 5 v2 |>.set 7 (.pointer (some ⟨H.n, 3, none⟩)) |>.set 8 v7) H8 := by kernel_rfl
noncomputable def f174_sh (call : Handle) (k : Nat) (p0 : Value) (H : GH) : M (Value × GH) :=
  onV (gLoad Try.prog 155 (.pointer (some ⟨H.n, 3, none⟩)) (GH.push (GH.push H (.row (Value.cells p0).toList 157 false)) (.row [(.int .u8 0), (.int .i64 0), (.bool false), (.int .u8 0)] 157 false))) fun v1 =>
  onV ((oBin Try.prog .eql 155 v1 (.int .u8 1)).filter closed) fun v2 =>
  onBool (asB v2)
  (onH (gStore Try.prog 155 (.pointer (some ⟨H.n, 3, none⟩)) (.int .u8 0) (GH.push (GH.push H (.row (Value.cells p0).toList 157 false)) (.row [(.int .u8 0), (.int .i64 0), (.bool false), (.int .u8 0)] 157 false))) fun H3 =>
  onV (gLoad Try.prog 157 (.pointer (some ⟨H.n, 0, none⟩)) H3) fun v4 =>
  onH (gStore Try.prog 157 (.pointer (some ⟨(GH.push H (.row (Value.cells p0).toList 157 false)).n, 0, none⟩)) v4 H3) fun H5 =>
  onV (gResL Try.prog H5 [((.pointer (some ⟨(GH.push H (.row (Value.cells p0).toList 157 false)).n, 0, none⟩)), some 157)]) fun v => some [(v, H5)])
  (onH (gStore Try.prog 155 (.pointer (some ⟨H.n, 3, none⟩)) (.int .u8 1) (GH.push (GH.push H (.row (Value.cells p0).toList 157 false)) (.row [(.int .u8 0), (.int .i64 0), (.bool false), (.int .u8 0)] 157 false))) fun H6 =>
  onV (gLoad Try.prog 157 (.pointer (some ⟨H.n, 0, none⟩)) H6) fun v7 =>
  onH (gStore Try.prog 157 (.pointer (some ⟨(GH.push H (.row (Value.cells p0).toList 157 false)).n, 0, none⟩)) v7 H6) fun H8 =>
  onV (gResL Try.prog H8 [((.pointer (some ⟨(GH.push H (.row (Value.cells p0).toList 157 false)).n, 0, none⟩)), some 157)]) fun v => some [(v, H8)])
theorem f174_run (call : Handle) (k : Nat) (p0 : Value) (H : GH) : gCode Try.prog call k (fAt Try.f174 []) ((FF 9 fun _ => undef) |>.set 0 p0) H (hFin Try.prog Try.f174) = f174_sh call k p0 H := by
  unfold f174_sh
  rw [n174_0]
  rw [n174_1]
  rw [s174_0]
  rw [hSeq_n]
  rw [n174_2]
  rw [n174_3]
  rw [n174_4]
  rw [s174_1]
  refine onV_c fun v1 => ?_
  refine onV_c fun v2 => ?_
  rw [hSeq_n]
  rw [n174_5]
  refine onBool_cc (by kernel_rfl) ?_ ?_
  · rw [n174_6]
    rw [s174_2]
    refine onH_c fun H3 => ?_
    rw [hSeq_n]
    rw [n174_7]
    rw [n174_8]
    rw [s174_3]
    refine onV_c fun v4 => ?_
    refine onH_c fun H5 => ?_
    rw [hSeq_n]
    rw [n174_9]
    kernel_rfl
  · rw [n174_10]
    rw [s174_4]
    refine onH_c fun H6 => ?_
    rw [hSeq_n]
    rw [n174_7]
    rw [n174_8]
    rw [s174_5]
    refine onV_c fun v7 => ?_
    refine onH_c fun H8 => ?_
    rw [hSeq_n]
    rw [n174_9]
    kernel_rfl
theorem f174_eq (call : Handle) (k : Nat) (p0 : Value) (H : GH) : gFunc Try.prog call k Try.f174 [p0] H = f174_sh call k p0 H :=
  Eq.trans (by kernel_rfl) (f174_run call k p0 H)
end
end Go.Proofs.Ythicilkmjamefaa
