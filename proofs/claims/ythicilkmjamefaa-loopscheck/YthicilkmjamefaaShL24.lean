/- PRINTED by sh.py: shallow forms of functions of the program, each proved equal to what the ghost machine makes of its code. -/
import Derived.Test.YthicilkmjamefaaGkTop
import Derived.Test.YthicilkmjamefaaProg
namespace Go.Proofs.Ythicilkmjamefaa
open Go.Gh
set_option linter.unusedVariables false
set_option linter.unusedSimpArgs false
set_option maxRecDepth 100000
section
variable {β : Type} {call : Handle} {k : Nat} {a : GA} {K : Kont β} {K' : GA → GH → M β}
variable {d : Nat → Value} {xg : Value}
variable {p0 : Value}
variable {v1 v3 : Value}
variable {H H2 : GH}
theorem n24_0 : gCode Try.prog call k (fAt Try.f24 []) a H K = gCode Try.prog call k (fAt Try.f24 [0]) a H (hSeq (gCode Try.prog call k (fAt Try.f24 [1])) K) := at_seq (by kernel_rfl)
theorem n24_1 : gCode Try.prog call k (fAt Try.f24 [0]) a H K = gOps Try.prog 0 call (opsAt (fAt Try.f24 [0])) ((opsAt (fAt Try.f24 [0])).drop 0) a H (K .normal) := at_region (by kernel_rfl)
theorem n24_2 : gCode Try.prog call k (fAt Try.f24 [1]) a H K = gCode Try.prog call k (fAt Try.f24 [1,0]) a H (hSeq (gCode Try.prog call k (fAt Try.f24 [1,1])) K) := at_seq (by kernel_rfl)
theorem n24_3 : gCode Try.prog call k (fAt Try.f24 [1,0]) a H K = gCode Try.prog call k (fAt Try.f24 [1,0,0]) a H (hSeq (gCode Try.prog call k (fAt Try.f24 [1,0,1])) K) := at_seq (by kernel_rfl)
theorem n24_4 : gCode Try.prog call k (fAt Try.f24 [1,0,0]) a H K = gOps Try.prog 0 call (opsAt (fAt Try.f24 [1,0,0])) ((opsAt (fAt Try.f24 [1,0,0])).drop 0) a H (K .normal) := at_region (by kernel_rfl)
theorem n24_5 : gCode Try.prog call k (fAt Try.f24 [1,0,1]) a H K = gCode Try.prog call k (fAt Try.f24 [1,0,1,0]) a H (hSeq (gCode Try.prog call k (fAt Try.f24 [1,0,1,1])) K) := at_seq (by kernel_rfl)
theorem n24_6 : gCode Try.prog call k (fAt Try.f24 [1,0,1,0]) a H K = gOps Try.prog 0 call (opsAt (fAt Try.f24 [1,0,1,0])) ((opsAt (fAt Try.f24 [1,0,1,0])).drop 0) a H (K .normal) := at_region (by kernel_rfl)
theorem n24_7 : gCode Try.prog call k (fAt Try.f24 [1,0,1,1]) a H K = onBool (asB (GA.eval a (.tmp 8))) (gCode Try.prog call k (fAt Try.f24 [1,0,1,1,0]) a H K) (gCode Try.prog call k (fAt Try.f24 [1,0,1,1,1]) a H K) := at_cond (by kernel_rfl)
theorem n24_8 : gCode Try.prog call k (fAt Try.f24 [1,0,1,1,0]) a H K = gCode Try.prog call k (fAt Try.f24 [1,0,1,1,0,0]) a H (hSeq (gCode Try.prog call k (fAt Try.f24 [1,0,1,1,0,1])) K) := at_seq (by kernel_rfl)
theorem n24_9 : gCode Try.prog call k (fAt Try.f24 [1,0,1,1,0,0]) a H K = gOps Try.prog 0 call (opsAt (fAt Try.f24 [1,0,1,1,0,0])) ((opsAt (fAt Try.f24 [1,0,1,1,0,0])).drop 0) a H (K .normal) := at_region (by kernel_rfl)
theorem n24_10 : gCode Try.prog call k (fAt Try.f24 [1,0,1,1,0,1]) a H K = K .ret a H := at_ret (by kernel_rfl)
theorem n24_11 : gCode Try.prog call k (fAt Try.f24 [1,0,1,1,1]) a H K = K .normal a H := at_skip (by kernel_rfl)
theorem n24_12 : gCode Try.prog call k (fAt Try.f24 [1,1]) a H K = gCode Try.prog call k (fAt Try.f24 [1,1,0]) a H (hSeq (gCode Try.prog call k (fAt Try.f24 [1,1,1])) K) := at_seq (by kernel_rfl)
theorem n24_13 : gCode Try.prog call k (fAt Try.f24 [1,1,0]) a H K = gOps Try.prog 0 call (opsAt (fAt Try.f24 [1,1,0])) ((opsAt (fAt Try.f24 [1,1,0])).drop 0) a H (K .normal) := at_region (by kernel_rfl)
theorem n24_14 : gCode Try.prog call k (fAt Try.f24 [1,1,1]) a H K = K .ret a H := at_ret (by kernel_rfl)
theorem s24_0 : gOps Try.prog 0 call (opsAt (fAt Try.f24 [0])) ((opsAt (fAt Try.f24 [0])).drop 0) ((FF 13 fun _ => undef) |>.set 0 p0) H K' =
  K' ((FF 13 fun _ => undef) |>.set 0 p0 |>.set 2 (.slice none 0 0) |>.set 3 (.int .i64 0)) H := by kernel_rfl
theorem s24_1 : gOps Try.prog 0 call (opsAt (fAt Try.f24 [1,0,0])) ((opsAt (fAt Try.f24 [1,0,0])).drop 0) ((FF 13 fun _ => undef) |>.set 0 p0 |>.set 2 (.slice none 0 0) |>.set 3 (.int .i64 0)) H K' =
  onCall 0 call (.func (.func 25) #[] #[]) [p0] H fun v1 H2 =>
  K' ((FF 13 fun _ => undef) |>.set 0 p0 |>.set 2 (.slice none 0 0) |>.set 3 (.int .i64 0) |>.set 5 p0 |>.set 6 v1 |>.set 4 v1) H2 := by kernel_rfl
theorem s24_2 : gOps Try.prog 0 call (opsAt (fAt Try.f24 [1,0,1,0])) ((opsAt (fAt Try.f24 [1,0,1,0])).drop 0) ((FF 13 fun _ => undef) |>.set 0 p0 |>.set 2 (.slice none 0 0) |>.set 3 (.int .i64 0) |>.set 5 p0 |>.set 6 v1 |>.set 4 v1) H2 K' =
  onV ((oBin Try.prog .neq 27 v1 (.int .i64 0)).filter closed) fun v3 =>
  K' ((FF 13 fun _ => undef) |>.set 0 p0 |>.set 2 (.slice none 0 0) |>.set 3 (.int .i64 0) |>.set 5 p0 |>.set 6 v1 |>.set 4 v1 |>.set 7 v1 |>.set 8 v3) H2 := by kernel_rfl
theorem s24_3 : gOps Try.prog 0 call (opsAt (fAt Try.f24 [1,0,1,1,0,0])) ((opsAt (fAt Try.f24 [1,0,1,1,0,0])).drop 0) ((FF 13 fun _ => undef) |>.set 0 p0 |>.set 2 (.slice none 0 0) |>.set 3 (.int .i64 0) |>.set 5 p0 |>.set 6 v1 |>.set 4 v1 |>.set 7 v1 |>.set 8 v3) H2 K' =
  K' ((FF 13 fun _ => undef) |>.set 0 p0 |>.set 2 (.slice none 0 0) |>.set 3 (.int .i64 0) |>.set 5 p0 |>.set 6 v1 |>.set 4 v1 |>.set 7 v1 |>.set 8 v3 |>.set 9 v1 |>.set 2 (.slice none 0 0) |>.set 3 v1) H2 := by kernel_rfl
theorem s24_4 : gOps Try.prog 0 call (opsAt (fAt Try.f24 [1,1,0])) ((opsAt (fAt Try.f24 [1,1,0])).drop 0) ((FF 13 fun _ => undef) |>.set 0 p0 |>.set 2 (.slice none 0 0) |>.set 3 (.int .i64 0) |>.set 5 p0 |>.set 6 v1 |>.set 4 v1 |>.set 7 v1 |>.set 8 v3) H2 K' =
  onCall 0 call (.func (.func 77) #[] #[]) [p0] H2 fun v4 H5 =>
  onCall 0 call (.func (.func 76) #[] #[]) [v4] H5 fun v6 H7 =>
  K' ((FF 13 fun _ => undef) |>.set 0 p0 |>.set 2 (.slice none 0 0) |>.set 3 (.int .i64 0) |>.set 5 p0 |>.set 6 v1 |>.set 4 v1 |>.set 7 v1 |>.set 8 v3 |>.set 10 p0 |>.set 11 v4 |>.set 12 v6 |>.set 2 v6 |>.set 3 (.int .i64 0)) H7 := by kernel_rfl
noncomputable def f24_sh (call : Handle) (k : Nat) (p0 : Value) (H : GH) : M (Value × GH) :=
  onCall 0 call (.func (.func 25) #[] #[]) [p0] H fun v1 H2 =>
  onV ((oBin Try.prog .neq 27 v1 (.int .i64 0)).filter closed) fun v3 =>
  onBool (asB v3)
  (some [((.tuple #[(.slice none 0 0), v1]), H2)])
  (onCall 0 call (.func (.func 77) #[] #[]) [p0] H2 fun v4 H5 =>
  onCall 0 call (.func (.func 76) #[] #[]) [v4] H5 fun v6 H7 =>
  some [((.tuple #[v6, (.int .i64 0)]), H7)])
theorem f24_run (call : Handle) (k : Nat) (p0 : Value) (H : GH) : gCode Try.prog call k (fAt Try.f24 []) ((FF 13 fun _ => undef) |>.set 0 p0) H (hFin Try.prog Try.f24) = f24_sh call k p0 H := by
  unfold f24_sh
  rw [n24_0]
  rw [n24_1]
  rw [s24_0]
  rw [hSeq_n]
  rw [n24_2]
  rw [n24_3]
  rw [n24_4]
  rw [s24_1]
  refine onCall_c fun v1 H2 => ?_
  rw [hSeq_n]
  rw [n24_5]
  rw [n24_6]
  rw [s24_2]
  refine onV_c fun v3 => ?_
  rw [hSeq_n]
  rw [n24_7]
  refine onBool_cc (by kernel_rfl) ?_ ?_
  · rw [n24_8]
    rw [n24_9]
    rw [s24_3]
    rw [hSeq_n]
    rw [n24_10]
    rw [hSeq_r]
    kernel_rfl
  · rw [n24_11]
    rw [hSeq_n]
    rw [n24_12]
    rw [n24_13]
    rw [s24_4]
    refine onCall_c fun v4 H5 => ?_
    refine onCall_c fun v6 H7 => ?_
    rw [hSeq_n]
    rw [n24_14]
    kernel_rfl
theorem f24_eq (call : Handle) (k : Nat) (p0 : Value) (H : GH) : gFunc Try.prog call k Try.f24 [p0] H = f24_sh call k p0 H :=
  Eq.trans (by kernel_rfl) (f24_run call k p0 H)
end
section
variable {β : Type} {call : Handle} {k : Nat} {a : GA} {K : Kont β} {K' : GA → GH → M β}
variable {d : Nat → Value} {xg : Value}
variable {p0 : Value}
variable {v1 v2 v3 v4 v5 v6 : Value}
variable {H H2 H4 H5 : GH}
theorem n25_0 : gCode Try.prog call k (fAt Try.f25 []) a H K = gCode Try.prog call k (fAt Try.f25 [0]) a H (hSeq (gCode Try.prog call k (fAt Try.f25 [1])) K) := at_seq (by kernel_rfl)
theorem n25_1 : gCode Try.prog call k (fAt Try.f25 [0]) a H K = gOps Try.prog 0 call (opsAt (fAt Try.f25 [0])) ((opsAt (fAt Try.f25 [0])).drop 0) a H (K .normal) := at_region (by kernel_rfl)
theorem n25_2 : gCode Try.prog call k (fAt Try.f25 [1]) a H K = gCode Try.prog call k (fAt Try.f25 [1,0]) a H (hSeq (gCode Try.prog call k (fAt Try.f25 [1,1])) K) := at_seq (by kernel_rfl)
theorem n25_3 : gCode Try.prog call k (fAt Try.f25 [1,0]) a H K = gCode Try.prog call k (fAt Try.f25 [1,0,0]) a H (hBlock 0 K) := at_block (by kernel_rfl)
theorem n25_4 : gCode Try.prog call k (fAt Try.f25 [1,0,0]) a H K = gCode Try.prog call k (fAt Try.f25 [1,0,0,0]) a H (hSeq (gCode Try.prog call k (fAt Try.f25 [1,0,0,1])) K) := at_seq (by kernel_rfl)
theorem n25_5 : gCode Try.prog call k (fAt Try.f25 [1,0,0,0]) a H K = gOps Try.prog 0 call (opsAt (fAt Try.f25 [1,0,0,0])) ((opsAt (fAt Try.f25 [1,0,0,0])).drop 0) a H (K .normal) := at_region (by kernel_rfl)
theorem n25_6 : gCode Try.prog call k (fAt Try.f25 [1,0,0,1]) a H K = onBool (asB (GA.eval a (.tmp 12))) (gCode Try.prog call k (fAt Try.f25 [1,0,0,1,0]) a H K) (gCode Try.prog call k (fAt Try.f25 [1,0,0,1,1]) a H K) := at_cond (by kernel_rfl)
theorem n25_7 : gCode Try.prog call k (fAt Try.f25 [1,0,0,1,0]) a H K = gCode Try.prog call k (fAt Try.f25 [1,0,0,1,0,0]) a H (hSeq (gCode Try.prog call k (fAt Try.f25 [1,0,0,1,0,1])) K) := at_seq (by kernel_rfl)
theorem n25_8 : gCode Try.prog call k (fAt Try.f25 [1,0,0,1,0,0]) a H K = gOps Try.prog 0 call (opsAt (fAt Try.f25 [1,0,0,1,0,0])) ((opsAt (fAt Try.f25 [1,0,0,1,0,0])).drop 0) a H (K .normal) := at_region (by kernel_rfl)
theorem n25_9 : gCode Try.prog call k (fAt Try.f25 [1,0,0,1,0,1]) a H K = K .ret a H := at_ret (by kernel_rfl)
theorem n25_10 : gCode Try.prog call k (fAt Try.f25 [1,0,0,1,1]) a H K = gCode Try.prog call k (fAt Try.f25 [1,0,0,1,1,0]) a H (hSeq (gCode Try.prog call k (fAt Try.f25 [1,0,0,1,1,1])) K) := at_seq (by kernel_rfl)
theorem n25_11 : gCode Try.prog call k (fAt Try.f25 [1,0,0,1,1,0]) a H K = gOps Try.prog 0 call (opsAt (fAt Try.f25 [1,0,0,1,1,0])) ((opsAt (fAt Try.f25 [1,0,0,1,1,0])).drop 0) a H (K .normal) := at_region (by kernel_rfl)
theorem n25_12 : gCode Try.prog call k (fAt Try.f25 [1,0,0,1,1,1]) a H K = onBool (asB (GA.eval a (.tmp 16))) (gCode Try.prog call k (fAt Try.f25 [1,0,0,1,1,1,0]) a H K) (gCode Try.prog call k (fAt Try.f25 [1,0,0,1,1,1,1]) a H K) := at_cond (by kernel_rfl)
theorem n25_13 : gCode Try.prog call k (fAt Try.f25 [1,0,0,1,1,1,0]) a H K = gCode Try.prog call k (fAt Try.f25 [1,0,0,1,1,1,0,0]) a H (hSeq (gCode Try.prog call k (fAt Try.f25 [1,0,0,1,1,1,0,1])) K) := at_seq (by kernel_rfl)
theorem n25_14 : gCode Try.prog call k (fAt Try.f25 [1,0,0,1,1,1,0,0]) a H K = gOps Try.prog 0 call (opsAt (fAt Try.f25 [1,0,0,1,1,1,0,0])) ((opsAt (fAt Try.f25 [1,0,0,1,1,1,0,0])).drop 0) a H (K .normal) := at_region (by kernel_rfl)
theorem n25_15 : gCode Try.prog call k (fAt Try.f25 [1,0,0,1,1,1,0,1]) a H K = K .ret a H := at_ret (by kernel_rfl)
theorem n25_16 : gCode Try.prog call k (fAt Try.f25 [1,0,0,1,1,1,1]) a H K = K .normal a H := at_skip (by kernel_rfl)
theorem n25_17 : gCode Try.prog call k (fAt Try.f25 [1,1]) a H K = gCode Try.prog call k (fAt Try.f25 [1,1,0]) a H (hSeq (gCode Try.prog call k (fAt Try.f25 [1,1,1])) K) := at_seq (by kernel_rfl)
theorem n25_18 : gCode Try.prog call k (fAt Try.f25 [1,1,0]) a H K = gOps Try.prog 0 call (opsAt (fAt Try.f25 [1,1,0])) ((opsAt (fAt Try.f25 [1,1,0])).drop 0) a H (K .normal) := at_region (by kernel_rfl)
theorem n25_19 : gCode Try.prog call k (fAt Try.f25 [1,1,1]) a H K = gCode Try.prog call k (fAt Try.f25 [1,1,1,0]) a H (hSeq (gCode Try.prog call k (fAt Try.f25 [1,1,1,1])) K) := at_seq (by kernel_rfl)
theorem n25_20 : gCode Try.prog call k (fAt Try.f25 [1,1,1,0]) a H K = gCode Try.prog call k (fAt Try.f25 [1,1,1,0,0]) a H (hSeq (gCode Try.prog call k (fAt Try.f25 [1,1,1,0,1])) K) := at_seq (by kernel_rfl)
theorem n25_21 : gCode Try.prog call k (fAt Try.f25 [1,1,1,0,0]) a H K = gOps Try.prog 0 call (opsAt (fAt Try.f25 [1,1,1,0,0])) ((opsAt (fAt Try.f25 [1,1,1,0,0])).drop 0) a H (K .normal) := at_region (by kernel_rfl)
theorem n25_22 : gCode Try.prog call k (fAt Try.f25 [1,1,1,0,1]) a H K = gCode Try.prog call k (fAt Try.f25 [1,1,1,0,1,0]) a H (hBlock 1 K) := at_block (by kernel_rfl)
theorem n25_23 : gCode Try.prog call k (fAt Try.f25 [1,1,1,0,1,0]) a H K = gLoop (gCode Try.prog call k (fAt Try.f25 [1,1,1,0,1,0,0])) K k a H := at_loop (by kernel_rfl)
theorem n25_24 : gCode Try.prog call k (fAt Try.f25 [1,1,1,0,1,0,0]) a H K = gCode Try.prog call k (fAt Try.f25 [1,1,1,0,1,0,0,0]) a H (hSeq (gCode Try.prog call k (fAt Try.f25 [1,1,1,0,1,0,0,1])) K) := at_seq (by kernel_rfl)
theorem n25_25 : gCode Try.prog call k (fAt Try.f25 [1,1,1,0,1,0,0,0]) a H K = gOps Try.prog 0 call (opsAt (fAt Try.f25 [1,1,1,0,1,0,0,0])) ((opsAt (fAt Try.f25 [1,1,1,0,1,0,0,0])).drop 0) a H (K .normal) := at_region (by kernel_rfl)
theorem n25_26 : gCode Try.prog call k (fAt Try.f25 [1,1,1,0,1,0,0,1]) a H K = gCode Try.prog call k (fAt Try.f25 [1,1,1,0,1,0,0,1,0]) a H (hSeq (gCode Try.prog call k (fAt Try.f25 [1,1,1,0,1,0,0,1,1])) K) := at_seq (by kernel_rfl)
theorem n25_27 : gCode Try.prog call k (fAt Try.f25 [1,1,1,0,1,0,0,1,0]) a H K = onBool (asB (GA.eval a (.tmp 24))) (gCode Try.prog call k (fAt Try.f25 [1,1,1,0,1,0,0,1,0,0]) a H K) (gCode Try.prog call k (fAt Try.f25 [1,1,1,0,1,0,0,1,0,1]) a H K) := at_cond (by kernel_rfl)
theorem n25_28 : gCode Try.prog call k (fAt Try.f25 [1,1,1,0,1,0,0,1,0,0]) a H K = K .normal a H := at_skip (by kernel_rfl)
theorem n25_29 : gCode Try.prog call k (fAt Try.f25 [1,1,1,0,1,0,0,1,1]) a H K = gCode Try.prog call k (fAt Try.f25 [1,1,1,0,1,0,0,1,1,0]) a H (hSeq (gCode Try.prog call k (fAt Try.f25 [1,1,1,0,1,0,0,1,1,1])) K) := at_seq (by kernel_rfl)
theorem n25_30 : gCode Try.prog call k (fAt Try.f25 [1,1,1,0,1,0,0,1,1,0]) a H K = gCode Try.prog call k (fAt Try.f25 [1,1,1,0,1,0,0,1,1,0,0]) a H (hBlock 2 K) := at_block (by kernel_rfl)
theorem n25_31 : gCode Try.prog call k (fAt Try.f25 [1,1,1,0,1,0,0,1,1,0,0]) a H K = gCode Try.prog call k (fAt Try.f25 [1,1,1,0,1,0,0,1,1,0,0,0]) a H (hSeq (gCode Try.prog call k (fAt Try.f25 [1,1,1,0,1,0,0,1,1,0,0,1])) K) := at_seq (by kernel_rfl)
theorem n25_32 : gCode Try.prog call k (fAt Try.f25 [1,1,1,0,1,0,0,1,1,0,0,0]) a H K = gOps Try.prog 0 call (opsAt (fAt Try.f25 [1,1,1,0,1,0,0,1,1,0,0,0])) ((opsAt (fAt Try.f25 [1,1,1,0,1,0,0,1,1,0,0,0])).drop 0) a H (K .normal) := at_region (by kernel_rfl)
theorem n25_33 : gCode Try.prog call k (fAt Try.f25 [1,1,1,0,1,0,0,1,1,0,0,1]) a H K = gCode Try.prog call k (fAt Try.f25 [1,1,1,0,1,0,0,1,1,0,0,1,0]) a H (hSeq (gCode Try.prog call k (fAt Try.f25 [1,1,1,0,1,0,0,1,1,0,0,1,1])) K) := at_seq (by kernel_rfl)
theorem n25_34 : gCode Try.prog call k (fAt Try.f25 [1,1,1,0,1,0,0,1,1,0,0,1,0]) a H K = gOps Try.prog 0 call (opsAt (fAt Try.f25 [1,1,1,0,1,0,0,1,1,0,0,1,0])) ((opsAt (fAt Try.f25 [1,1,1,0,1,0,0,1,1,0,0,1,0])).drop 0) a H (K .normal) := at_region (by kernel_rfl)
theorem n25_35 : gCode Try.prog call k (fAt Try.f25 [1,1,1,0,1,0,0,1,1,0,0,1,1]) a H K = gCode Try.prog call k (fAt Try.f25 [1,1,1,0,1,0,0,1,1,0,0,1,1,0]) a H (hBlock 3 K) := at_block (by kernel_rfl)
theorem n25_36 : gCode Try.prog call k (fAt Try.f25 [1,1,1,0,1,0,0,1,1,0,0,1,1,0]) a H K = gLoop (gCode Try.prog call k (fAt Try.f25 [1,1,1,0,1,0,0,1,1,0,0,1,1,0,0])) K k a H := at_loop (by kernel_rfl)
theorem n25_37 : gCode Try.prog call k (fAt Try.f25 [1,1,1,0,1,0,0,1,0,1]) a H K = K (.exit 1) a H := at_exit (by kernel_rfl)
theorem n25_38 : gCode Try.prog call k (fAt Try.f25 [1,1,1,0,1,0,0,1,1,0,0,1,1,0,0]) a H K = gCode Try.prog call k (fAt Try.f25 [1,1,1,0,1,0,0,1,1,0,0,1,1,0,0,0]) a H (hSeq (gCode Try.prog call k (fAt Try.f25 [1,1,1,0,1,0,0,1,1,0,0,1,1,0,0,1])) K) := at_seq (by kernel_rfl)
theorem n25_39 : gCode Try.prog call k (fAt Try.f25 [1,1,1,0,1,0,0,1,1,0,0,1,1,0,0,0]) a H K = gOps Try.prog 0 call (opsAt (fAt Try.f25 [1,1,1,0,1,0,0,1,1,0,0,1,1,0,0,0])) ((opsAt (fAt Try.f25 [1,1,1,0,1,0,0,1,1,0,0,1,1,0,0,0])).drop 0) a H (K .normal) := at_region (by kernel_rfl)
theorem n25_40 : gCode Try.prog call k (fAt Try.f25 [1,1,1,0,1,0,0,1,1,0,0,1,1,0,0,1]) a H K = gCode Try.prog call k (fAt Try.f25 [1,1,1,0,1,0,0,1,1,0,0,1,1,0,0,1,0]) a H (hSeq (gCode Try.prog call k (fAt Try.f25 [1,1,1,0,1,0,0,1,1,0,0,1,1,0,0,1,1])) K) := at_seq (by kernel_rfl)
theorem n25_41 : gCode Try.prog call k (fAt Try.f25 [1,1,1,0,1,0,0,1,1,0,0,1,1,0,0,1,0]) a H K = onBool (asB (GA.eval a (.tmp 30))) (gCode Try.prog call k (fAt Try.f25 [1,1,1,0,1,0,0,1,1,0,0,1,1,0,0,1,0,0]) a H K) (gCode Try.prog call k (fAt Try.f25 [1,1,1,0,1,0,0,1,1,0,0,1,1,0,0,1,0,1]) a H K) := at_cond (by kernel_rfl)
theorem n25_42 : gCode Try.prog call k (fAt Try.f25 [1,1,1,0,1,0,0,1,1,0,0,1,1,0,0,1,0,0]) a H K = K .normal a H := at_skip (by kernel_rfl)
theorem n25_43 : gCode Try.prog call k (fAt Try.f25 [1,1,1,0,1,0,0,1,1,0,0,1,1,0,0,1,1]) a H K = gCode Try.prog call k (fAt Try.f25 [1,1,1,0,1,0,0,1,1,0,0,1,1,0,0,1,1,0]) a H (hSeq (gCode Try.prog call k (fAt Try.f25 [1,1,1,0,1,0,0,1,1,0,0,1,1,0,0,1,1,1])) K) := at_seq (by kernel_rfl)
theorem n25_44 : gCode Try.prog call k (fAt Try.f25 [1,1,1,0,1,0,0,1,1,0,0,1,1,0,0,1,1,0]) a H K = gCode Try.prog call k (fAt Try.f25 [1,1,1,0,1,0,0,1,1,0,0,1,1,0,0,1,1,0,0]) a H (hBlock 4 K) := at_block (by kernel_rfl)
theorem n25_45 : gCode Try.prog call k (fAt Try.f25 [1,1,1,0,1,0,0,1,1,0,0,1,1,0,0,1,1,0,0]) a H K = gCode Try.prog call k (fAt Try.f25 [1,1,1,0,1,0,0,1,1,0,0,1,1,0,0,1,1,0,0,0]) a H (hSeq (gCode Try.prog call k (fAt Try.f25 [1,1,1,0,1,0,0,1,1,0,0,1,1,0,0,1,1,0,0,1])) K) := at_seq (by kernel_rfl)
theorem n25_46 : gCode Try.prog call k (fAt Try.f25 [1,1,1,0,1,0,0,1,1,0,0,1,1,0,0,1,1,0,0,0]) a H K = gOps Try.prog 0 call (opsAt (fAt Try.f25 [1,1,1,0,1,0,0,1,1,0,0,1,1,0,0,1,1,0,0,0])) ((opsAt (fAt Try.f25 [1,1,1,0,1,0,0,1,1,0,0,1,1,0,0,1,1,0,0,0])).drop 0) a H (K .normal) := at_region (by kernel_rfl)
theorem n25_47 : gCode Try.prog call k (fAt Try.f25 [1,1,1,0,1,0,0,1,1,0,0,1,1,0,0,1,1,0,0,1]) a H K = gCode Try.prog call k (fAt Try.f25 [1,1,1,0,1,0,0,1,1,0,0,1,1,0,0,1,1,0,0,1,0]) a H (hSeq (gCode Try.prog call k (fAt Try.f25 [1,1,1,0,1,0,0,1,1,0,0,1,1,0,0,1,1,0,0,1,1])) K) := at_seq (by kernel_rfl)
theorem n25_48 : gCode Try.prog call k (fAt Try.f25 [1,1,1,0,1,0,0,1,1,0,0,1,1,0,0,1,1,0,0,1,0]) a H K = gCode Try.prog call k (fAt Try.f25 [1,1,1,0,1,0,0,1,1,0,0,1,1,0,0,1,1,0,0,1,0,0]) a H (hSeq (gCode Try.prog call k (fAt Try.f25 [1,1,1,0,1,0,0,1,1,0,0,1,1,0,0,1,1,0,0,1,0,1])) K) := at_seq (by kernel_rfl)
theorem n25_49 : gCode Try.prog call k (fAt Try.f25 [1,1,1,0,1,0,0,1,1,0,0,1,1,0,0,1,0,1]) a H K = K (.exit 3) a H := at_exit (by kernel_rfl)
theorem n25_50 : gCode Try.prog call k (fAt Try.f25 [1,1,1,0,1,0,0,1,1,1]) a H K = gOps Try.prog 0 call (opsAt (fAt Try.f25 [1,1,1,0,1,0,0,1,1,1])) ((opsAt (fAt Try.f25 [1,1,1,0,1,0,0,1,1,1])).drop 0) a H (K .normal) := at_region (by kernel_rfl)
theorem n25_51 : gCode Try.prog call k (fAt Try.f25 [1,1,1,1]) a H K = gCode Try.prog call k (fAt Try.f25 [1,1,1,1,0]) a H (hSeq (gCode Try.prog call k (fAt Try.f25 [1,1,1,1,1])) K) := at_seq (by kernel_rfl)
theorem n25_52 : gCode Try.prog call k (fAt Try.f25 [1,1,1,1,0]) a H K = gCode Try.prog call k (fAt Try.f25 [1,1,1,1,0,0]) a H (hSeq (gCode Try.prog call k (fAt Try.f25 [1,1,1,1,0,1])) K) := at_seq (by kernel_rfl)
theorem n25_53 : gCode Try.prog call k (fAt Try.f25 [1,1,1,1,0,0]) a H K = gOps Try.prog 0 call (opsAt (fAt Try.f25 [1,1,1,1,0,0])) ((opsAt (fAt Try.f25 [1,1,1,1,0,0])).drop 0) a H (K .normal) := at_region (by kernel_rfl)
theorem n25_54 : gCode Try.prog call k (fAt Try.f25 [1,1,1,1,0,1]) a H K = gCode Try.prog call k (fAt Try.f25 [1,1,1,1,0,1,0]) a H (hBlock 7 K) := at_block (by kernel_rfl)
theorem n25_55 : gCode Try.prog call k (fAt Try.f25 [1,1,1,1,0,1,0]) a H K = gLoop (gCode Try.prog call k (fAt Try.f25 [1,1,1,1,0,1,0,0])) K k a H := at_loop (by kernel_rfl)
theorem n25_56 : gCode Try.prog call k (fAt Try.f25 [1,1,1,0,1,0,0,1,1,0,0,1,1,0,0,1,1,0,0,1,0,0]) a H K = gOps Try.prog 0 call (opsAt (fAt Try.f25 [1,1,1,0,1,0,0,1,1,0,0,1,1,0,0,1,1,0,0,1,0,0])) ((opsAt (fAt Try.f25 [1,1,1,0,1,0,0,1,1,0,0,1,1,0,0,1,1,0,0,1,0,0])).drop 0) a H (K .normal) := at_region (by kernel_rfl)
theorem n25_57 : gCode Try.prog call k (fAt Try.f25 [1,1,1,1,0,1,0,0]) a H K = gCode Try.prog call k (fAt Try.f25 [1,1,1,1,0,1,0,0,0]) a H (hSeq (gCode Try.prog call k (fAt Try.f25 [1,1,1,1,0,1,0,0,1])) K) := at_seq (by kernel_rfl)
theorem n25_58 : gCode Try.prog call k (fAt Try.f25 [1,1,1,1,0,1,0,0,0]) a H K = gOps Try.prog 0 call (opsAt (fAt Try.f25 [1,1,1,1,0,1,0,0,0])) ((opsAt (fAt Try.f25 [1,1,1,1,0,1,0,0,0])).drop 0) a H (K .normal) := at_region (by kernel_rfl)
theorem n25_59 : gCode Try.prog call k (fAt Try.f25 [1,1,1,1,0,1,0,0,1]) a H K = gCode Try.prog call k (fAt Try.f25 [1,1,1,1,0,1,0,0,1,0]) a H (hSeq (gCode Try.prog call k (fAt Try.f25 [1,1,1,1,0,1,0,0,1,1])) K) := at_seq (by kernel_rfl)
theorem n25_60 : gCode Try.prog call k (fAt Try.f25 [1,1,1,1,0,1,0,0,1,0]) a H K = onBool (asB (GA.eval a (.tmp 66))) (gCode Try.prog call k (fAt Try.f25 [1,1,1,1,0,1,0,0,1,0,0]) a H K) (gCode Try.prog call k (fAt Try.f25 [1,1,1,1,0,1,0,0,1,0,1]) a H K) := at_cond (by kernel_rfl)
theorem n25_61 : gCode Try.prog call k (fAt Try.f25 [1,1,1,1,0,1,0,0,1,0,0]) a H K = K .normal a H := at_skip (by kernel_rfl)
theorem n25_62 : gCode Try.prog call k (fAt Try.f25 [1,1,1,1,0,1,0,0,1,1]) a H K = gCode Try.prog call k (fAt Try.f25 [1,1,1,1,0,1,0,0,1,1,0]) a H (hBlock 8 K) := at_block (by kernel_rfl)
theorem n25_63 : gCode Try.prog call k (fAt Try.f25 [1,1,1,1,0,1,0,0,1,1,0]) a H K = gCode Try.prog call k (fAt Try.f25 [1,1,1,1,0,1,0,0,1,1,0,0]) a H (hSeq (gCode Try.prog call k (fAt Try.f25 [1,1,1,1,0,1,0,0,1,1,0,1])) K) := at_seq (by kernel_rfl)
theorem n25_64 : gCode Try.prog call k (fAt Try.f25 [1,1,1,1,0,1,0,0,1,1,0,0]) a H K = gOps Try.prog 0 call (opsAt (fAt Try.f25 [1,1,1,1,0,1,0,0,1,1,0,0])) ((opsAt (fAt Try.f25 [1,1,1,1,0,1,0,0,1,1,0,0])).drop 0) a H (K .normal) := at_region (by kernel_rfl)
theorem n25_65 : gCode Try.prog call k (fAt Try.f25 [1,1,1,1,0,1,0,0,1,1,0,1]) a H K = gCode Try.prog call k (fAt Try.f25 [1,1,1,1,0,1,0,0,1,1,0,1,0]) a H (hSeq (gCode Try.prog call k (fAt Try.f25 [1,1,1,1,0,1,0,0,1,1,0,1,1])) K) := at_seq (by kernel_rfl)
theorem n25_66 : gCode Try.prog call k (fAt Try.f25 [1,1,1,1,0,1,0,0,1,1,0,1,0]) a H K = gOps Try.prog 0 call (opsAt (fAt Try.f25 [1,1,1,1,0,1,0,0,1,1,0,1,0])) ((opsAt (fAt Try.f25 [1,1,1,1,0,1,0,0,1,1,0,1,0])).drop 0) a H (K .normal) := at_region (by kernel_rfl)
theorem n25_67 : gCode Try.prog call k (fAt Try.f25 [1,1,1,1,0,1,0,0,1,1,0,1,1]) a H K = onBool (asB (GA.eval a (.tmp 70))) (gCode Try.prog call k (fAt Try.f25 [1,1,1,1,0,1,0,0,1,1,0,1,1,0]) a H K) (gCode Try.prog call k (fAt Try.f25 [1,1,1,1,0,1,0,0,1,1,0,1,1,1]) a H K) := at_cond (by kernel_rfl)
theorem n25_68 : gCode Try.prog call k (fAt Try.f25 [1,1,1,1,0,1,0,0,1,1,0,1,1,0]) a H K = gCode Try.prog call k (fAt Try.f25 [1,1,1,1,0,1,0,0,1,1,0,1,1,0,0]) a H (hSeq (gCode Try.prog call k (fAt Try.f25 [1,1,1,1,0,1,0,0,1,1,0,1,1,0,1])) K) := at_seq (by kernel_rfl)
theorem n25_69 : gCode Try.prog call k (fAt Try.f25 [1,1,1,1,0,1,0,0,1,1,0,1,1,0,0]) a H K = gOps Try.prog 0 call (opsAt (fAt Try.f25 [1,1,1,1,0,1,0,0,1,1,0,1,1,0,0])) ((opsAt (fAt Try.f25 [1,1,1,1,0,1,0,0,1,1,0,1,1,0,0])).drop 0) a H (K .normal) := at_region (by kernel_rfl)
theorem n25_70 : gCode Try.prog call k (fAt Try.f25 [1,1,1,1,0,1,0,0,1,1,0,1,1,0,1]) a H K = K .ret a H := at_ret (by kernel_rfl)
theorem n25_71 : gCode Try.prog call k (fAt Try.f25 [1,1,1,1,0,1,0,0,1,1,0,1,1,1]) a H K = K .normal a H := at_skip (by kernel_rfl)
theorem n25_72 : gCode Try.prog call k (fAt Try.f25 [1,1,1,1,0,1,0,0,1,0,1]) a H K = K (.exit 7) a H := at_exit (by kernel_rfl)
theorem n25_73 : gCode Try.prog call k (fAt Try.f25 [1,1,1,0,1,0,0,1,1,0,0,1,1,0,0,1,1,0,0,1,0,1]) a H K = onBool (asB (GA.eval a (.tmp 46))) (gCode Try.prog call k (fAt Try.f25 [1,1,1,0,1,0,0,1,1,0,0,1,1,0,0,1,1,0,0,1,0,1,0]) a H K) (gCode Try.prog call k (fAt Try.f25 [1,1,1,0,1,0,0,1,1,0,0,1,1,0,0,1,1,0,0,1,0,1,1]) a H K) := at_cond (by kernel_rfl)
theorem n25_74 : gCode Try.prog call k (fAt Try.f25 [1,1,1,0,1,0,0,1,1,0,0,1,1,0,0,1,1,0,0,1,0,1,0]) a H K = gCode Try.prog call k (fAt Try.f25 [1,1,1,0,1,0,0,1,1,0,0,1,1,0,0,1,1,0,0,1,0,1,0,0]) a H (hSeq (gCode Try.prog call k (fAt Try.f25 [1,1,1,0,1,0,0,1,1,0,0,1,1,0,0,1,1,0,0,1,0,1,0,1])) K) := at_seq (by kernel_rfl)
theorem n25_75 : gCode Try.prog call k (fAt Try.f25 [1,1,1,0,1,0,0,1,1,0,0,1,1,0,0,1,1,0,0,1,0,1,0,0]) a H K = gOps Try.prog 0 call (opsAt (fAt Try.f25 [1,1,1,0,1,0,0,1,1,0,0,1,1,0,0,1,1,0,0,1,0,1,0,0])) ((opsAt (fAt Try.f25 [1,1,1,0,1,0,0,1,1,0,0,1,1,0,0,1,1,0,0,1,0,1,0,0])).drop 0) a H (K .normal) := at_region (by kernel_rfl)
theorem n25_76 : gCode Try.prog call k (fAt Try.f25 [1,1,1,0,1,0,0,1,1,0,0,1,1,0,0,1,1,0,0,1,0,1,0,1]) a H K = K .ret a H := at_ret (by kernel_rfl)
theorem n25_77 : gCode Try.prog call k (fAt Try.f25 [1,1,1,1,1]) a H K = gCode Try.prog call k (fAt Try.f25 [1,1,1,1,1,0]) a H (hSeq (gCode Try.prog call k (fAt Try.f25 [1,1,1,1,1,1])) K) := at_seq (by kernel_rfl)
theorem n25_78 : gCode Try.prog call k (fAt Try.f25 [1,1,1,1,1,0]) a H K = gCode Try.prog call k (fAt Try.f25 [1,1,1,1,1,0,0]) a H (hSeq (gCode Try.prog call k (fAt Try.f25 [1,1,1,1,1,0,1])) K) := at_seq (by kernel_rfl)
theorem n25_79 : gCode Try.prog call k (fAt Try.f25 [1,1,1,1,1,0,0]) a H K = gOps Try.prog 0 call (opsAt (fAt Try.f25 [1,1,1,1,1,0,0])) ((opsAt (fAt Try.f25 [1,1,1,1,1,0,0])).drop 0) a H (K .normal) := at_region (by kernel_rfl)
theorem n25_80 : gCode Try.prog call k (fAt Try.f25 [1,1,1,1,1,0,1]) a H K = onBool (asB (GA.eval a (.tmp 76))) (gCode Try.prog call k (fAt Try.f25 [1,1,1,1,1,0,1,0]) a H K) (gCode Try.prog call k (fAt Try.f25 [1,1,1,1,1,0,1,1]) a H K) := at_cond (by kernel_rfl)
theorem n25_81 : gCode Try.prog call k (fAt Try.f25 [1,1,1,1,1,0,1,0]) a H K = gCode Try.prog call k (fAt Try.f25 [1,1,1,1,1,0,1,0,0]) a H (hSeq (gCode Try.prog call k (fAt Try.f25 [1,1,1,1,1,0,1,0,1])) K) := at_seq (by kernel_rfl)
theorem n25_82 : gCode Try.prog call k (fAt Try.f25 [1,1,1,1,1,0,1,0,0]) a H K = gOps Try.prog 0 call (opsAt (fAt Try.f25 [1,1,1,1,1,0,1,0,0])) ((opsAt (fAt Try.f25 [1,1,1,1,1,0,1,0,0])).drop 0) a H (K .normal) := at_region (by kernel_rfl)
theorem n25_83 : gCode Try.prog call k (fAt Try.f25 [1,1,1,1,1,0,1,0,1]) a H K = K .ret a H := at_ret (by kernel_rfl)
theorem n25_84 : gCode Try.prog call k (fAt Try.f25 [1,1,1,1,1,0,1,1]) a H K = K .normal a H := at_skip (by kernel_rfl)
theorem n25_85 : gCode Try.prog call k (fAt Try.f25 [1,1,1,1,1,1]) a H K = gCode Try.prog call k (fAt Try.f25 [1,1,1,1,1,1,0]) a H (hSeq (gCode Try.prog call k (fAt Try.f25 [1,1,1,1,1,1,1])) K) := at_seq (by kernel_rfl)
theorem n25_86 : gCode Try.prog call k (fAt Try.f25 [1,1,1,1,1,1,0]) a H K = gOps Try.prog 0 call (opsAt (fAt Try.f25 [1,1,1,1,1,1,0])) ((opsAt (fAt Try.f25 [1,1,1,1,1,1,0])).drop 0) a H (K .normal) := at_region (by kernel_rfl)
theorem n25_87 : gCode Try.prog call k (fAt Try.f25 [1,1,1,1,1,1,1]) a H K = K .ret a H := at_ret (by kernel_rfl)
theorem n25_88 : gCode Try.prog call k (fAt Try.f25 [1,1,1,0,1,0,0,1,1,0,0,1,1,0,0,1,1,0,0,1,0,1,1]) a H K = K .normal a H := at_skip (by kernel_rfl)
theorem n25_89 : gCode Try.prog call k (fAt Try.f25 [1,1,1,0,1,0,0,1,1,0,0,1,1,0,0,1,1,0,0,1,1]) a H K = gCode Try.prog call k (fAt Try.f25 [1,1,1,0,1,0,0,1,1,0,0,1,1,0,0,1,1,0,0,1,1,0]) a H (hSeq (gCode Try.prog call k (fAt Try.f25 [1,1,1,0,1,0,0,1,1,0,0,1,1,0,0,1,1,0,0,1,1,1])) K) := at_seq (by kernel_rfl)
theorem n25_90 : gCode Try.prog call k (fAt Try.f25 [1,1,1,0,1,0,0,1,1,0,0,1,1,0,0,1,1,0,0,1,1,0]) a H K = gOps Try.prog 0 call (opsAt (fAt Try.f25 [1,1,1,0,1,0,0,1,1,0,0,1,1,0,0,1,1,0,0,1,1,0])) ((opsAt (fAt Try.f25 [1,1,1,0,1,0,0,1,1,0,0,1,1,0,0,1,1,0,0,1,1,0])).drop 0) a H (K .normal) := at_region (by kernel_rfl)
theorem n25_91 : gCode Try.prog call k (fAt Try.f25 [1,1,1,0,1,0,0,1,1,0,0,1,1,0,0,1,1,0,0,1,1,1]) a H K = gCode Try.prog call k (fAt Try.f25 [1,1,1,0,1,0,0,1,1,0,0,1,1,0,0,1,1,0,0,1,1,1,0]) a H (hBlock 5 K) := at_block (by kernel_rfl)
theorem n25_92 : gCode Try.prog call k (fAt Try.f25 [1,1,1,0,1,0,0,1,1,0,0,1,1,0,0,1,1,0,0,1,1,1,0]) a H K = gLoop (gCode Try.prog call k (fAt Try.f25 [1,1,1,0,1,0,0,1,1,0,0,1,1,0,0,1,1,0,0,1,1,1,0,0])) K k a H := at_loop (by kernel_rfl)
theorem n25_93 : gCode Try.prog call k (fAt Try.f25 [1,1,1,0,1,0,0,1,1,0,0,1,1,0,0,1,1,0,0,1,1,1,0,0]) a H K = gCode Try.prog call k (fAt Try.f25 [1,1,1,0,1,0,0,1,1,0,0,1,1,0,0,1,1,0,0,1,1,1,0,0,0]) a H (hSeq (gCode Try.prog call k (fAt Try.f25 [1,1,1,0,1,0,0,1,1,0,0,1,1,0,0,1,1,0,0,1,1,1,0,0,1])) K) := at_seq (by kernel_rfl)
theorem n25_94 : gCode Try.prog call k (fAt Try.f25 [1,1,1,0,1,0,0,1,1,0,0,1,1,0,0,1,1,0,0,1,1,1,0,0,0]) a H K = gOps Try.prog 0 call (opsAt (fAt Try.f25 [1,1,1,0,1,0,0,1,1,0,0,1,1,0,0,1,1,0,0,1,1,1,0,0,0])) ((opsAt (fAt Try.f25 [1,1,1,0,1,0,0,1,1,0,0,1,1,0,0,1,1,0,0,1,1,1,0,0,0])).drop 0) a H (K .normal) := at_region (by kernel_rfl)
theorem n25_95 : gCode Try.prog call k (fAt Try.f25 [1,1,1,0,1,0,0,1,1,0,0,1,1,0,0,1,1,0,0,1,1,1,0,0,1]) a H K = gCode Try.prog call k (fAt Try.f25 [1,1,1,0,1,0,0,1,1,0,0,1,1,0,0,1,1,0,0,1,1,1,0,0,1,0]) a H (hSeq (gCode Try.prog call k (fAt Try.f25 [1,1,1,0,1,0,0,1,1,0,0,1,1,0,0,1,1,0,0,1,1,1,0,0,1,1])) K) := at_seq (by kernel_rfl)
theorem n25_96 : gCode Try.prog call k (fAt Try.f25 [1,1,1,0,1,0,0,1,1,0,0,1,1,0,0,1,1,0,0,1,1,1,0,0,1,0]) a H K = onBool (asB (GA.eval a (.tmp 51))) (gCode Try.prog call k (fAt Try.f25 [1,1,1,0,1,0,0,1,1,0,0,1,1,0,0,1,1,0,0,1,1,1,0,0,1,0,0]) a H K) (gCode Try.prog call k (fAt Try.f25 [1,1,1,0,1,0,0,1,1,0,0,1,1,0,0,1,1,0,0,1,1,1,0,0,1,0,1]) a H K) := at_cond (by kernel_rfl)
theorem n25_97 : gCode Try.prog call k (fAt Try.f25 [1,1,1,0,1,0,0,1,1,0,0,1,1,0,0,1,1,0,0,1,1,1,0,0,1,0,0]) a H K = K .normal a H := at_skip (by kernel_rfl)
theorem n25_98 : gCode Try.prog call k (fAt Try.f25 [1,1,1,0,1,0,0,1,1,0,0,1,1,0,0,1,1,0,0,1,1,1,0,0,1,1]) a H K = gCode Try.prog call k (fAt Try.f25 [1,1,1,0,1,0,0,1,1,0,0,1,1,0,0,1,1,0,0,1,1,1,0,0,1,1,0]) a H (hSeq (gCode Try.prog call k (fAt Try.f25 [1,1,1,0,1,0,0,1,1,0,0,1,1,0,0,1,1,0,0,1,1,1,0,0,1,1,1])) K) := at_seq (by kernel_rfl)
theorem n25_99 : gCode Try.prog call k (fAt Try.f25 [1,1,1,0,1,0,0,1,1,0,0,1,1,0,0,1,1,0,0,1,1,1,0,0,1,1,0]) a H K = gCode Try.prog call k (fAt Try.f25 [1,1,1,0,1,0,0,1,1,0,0,1,1,0,0,1,1,0,0,1,1,1,0,0,1,1,0,0]) a H (hBlock 6 K) := at_block (by kernel_rfl)
theorem n25_100 : gCode Try.prog call k (fAt Try.f25 [1,1,1,0,1,0,0,1,1,0,0,1,1,0,0,1,1,0,0,1,1,1,0,0,1,1,0,0]) a H K = gCode Try.prog call k (fAt Try.f25 [1,1,1,0,1,0,0,1,1,0,0,1,1,0,0,1,1,0,0,1,1,1,0,0,1,1,0,0,0]) a H (hSeq (gCode Try.prog call k (fAt Try.f25 [1,1,1,0,1,0,0,1,1,0,0,1,1,0,0,1,1,0,0,1,1,1,0,0,1,1,0,0,1])) K) := at_seq (by kernel_rfl)
theorem n25_101 : gCode Try.prog call k (fAt Try.f25 [1,1,1,0,1,0,0,1,1,0,0,1,1,0,0,1,1,0,0,1,1,1,0,0,1,1,0,0,0]) a H K = gOps Try.prog 0 call (opsAt (fAt Try.f25 [1,1,1,0,1,0,0,1,1,0,0,1,1,0,0,1,1,0,0,1,1,1,0,0,1,1,0,0,0])) ((opsAt (fAt Try.f25 [1,1,1,0,1,0,0,1,1,0,0,1,1,0,0,1,1,0,0,1,1,1,0,0,1,1,0,0,0])).drop 0) a H (K .normal) := at_region (by kernel_rfl)
theorem n25_102 : gCode Try.prog call k (fAt Try.f25 [1,1,1,0,1,0,0,1,1,0,0,1,1,0,0,1,1,0,0,1,1,1,0,0,1,1,0,0,1]) a H K = gOps Try.prog 3 call (opsAt (fAt Try.f25 [1,1,1,0,1,0,0,1,1,0,0,1,1,0,0,1,1,0,0,1,1,1,0,0,1,1,0,0,1])) ((opsAt (fAt Try.f25 [1,1,1,0,1,0,0,1,1,0,0,1,1,0,0,1,1,0,0,1,1,1,0,0,1,1,0,0,1])).drop 0) a H (K .normal) := at_region (by kernel_rfl)
theorem n25_103 : gCode Try.prog call k (fAt Try.f25 [1,1,1,0,1,0,0,1,1,0,0,1,1,0,0,1,1,0,0,1,1,1,0,0,1,0,1]) a H K = K (.exit 5) a H := at_exit (by kernel_rfl)
theorem n25_104 : gCode Try.prog call k (fAt Try.f25 [1,1,1,0,1,0,0,1,1,0,0,1,1,0,0,1,1,1]) a H K = gOps Try.prog 0 call (opsAt (fAt Try.f25 [1,1,1,0,1,0,0,1,1,0,0,1,1,0,0,1,1,1])) ((opsAt (fAt Try.f25 [1,1,1,0,1,0,0,1,1,0,0,1,1,0,0,1,1,1])).drop 0) a H (K .normal) := at_region (by kernel_rfl)
theorem n25_105 : gCode Try.prog call k (fAt Try.f25 [1,1,1,0,1,0,0,1,1,0,0,1,1,0,0,1,1,0,0,1,1,1,0,0,1,1,1]) a H K = gOps Try.prog 0 call (opsAt (fAt Try.f25 [1,1,1,0,1,0,0,1,1,0,0,1,1,0,0,1,1,0,0,1,1,1,0,0,1,1,1])) ((opsAt (fAt Try.f25 [1,1,1,0,1,0,0,1,1,0,0,1,1,0,0,1,1,0,0,1,1,1,0,0,1,1,1])).drop 0) a H (K .normal) := at_region (by kernel_rfl)
theorem s25_0 : gOps Try.prog 0 call (opsAt (fAt Try.f25 [0])) ((opsAt (fAt Try.f25 [0])).drop 0) ((FF 77 fun _ => undef) |>.set 0 p0) H K' =
  K' ((FF 77 fun _ => undef) |>.set 0 p0 |>.set 2 (.int .i64 0)) H := by kernel_rfl
theorem s25_1 : gOps Try.prog 0 call (opsAt (fAt Try.f25 [1,0,0,0])) ((opsAt (fAt Try.f25 [1,0,0,0])).drop 0) ((FF 77 fun _ => undef) |>.set 0 p0 |>.set 2 (.int .i64 0)) H K' =
  onV (oLen Try.prog 58 p0) fun v1 =>
  onV ((oBin Try.prog .neq 3 v1 (.int .i64 6)).filter closed) fun v2 =>
  K' ((FF 77 fun _ => undef) |>.set 0 p0 |>.set 2 (.int .i64 0) |>.set 13 p0 |>.set 14 v1 |>.set 15 v2 |>.set 12 v2) H := by kernel_rfl
theorem s25_2 : gOps Try.prog 0 call (opsAt (fAt Try.f25 [1,0,0,1,0,0])) ((opsAt (fAt Try.f25 [1,0,0,1,0,0])).drop 0) ((FF 77 fun _ => undef) |>.set 0 p0 |>.set 2 (.int .i64 0) |>.set 13 p0 |>.set 14 v1 |>.set 15 v2 |>.set 12 v2) H K' =
  K' ((FF 77 fun _ => undef) |>.set 0 p0 |>.set 2 (.int .i64 0) |>.set 13 p0 |>.set 14 v1 |>.set 15 v2 |>.set 12 v2 |>.set 2 (.int .i64 5)) H := by kernel_rfl
theorem s25_3 : gOps Try.prog 0 call (opsAt (fAt Try.f25 [1,0,0,1,1,0])) ((opsAt (fAt Try.f25 [1,0,0,1,1,0])).drop 0) ((FF 77 fun _ => undef) |>.set 0 p0 |>.set 2 (.int .i64 0) |>.set 13 p0 |>.set 14 v1 |>.set 15 v2 |>.set 12 v2) H K' =
  onCall 0 call (.func (.func 73) #[] #[]) [p0] H fun v3 H4 =>
  onV ((oBin Try.prog .gtr 3 v3 (.int .i64 2048)).filter closed) fun v5 =>
  K' ((FF 77 fun _ => undef) |>.set 0 p0 |>.set 2 (.int .i64 0) |>.set 13 p0 |>.set 14 v1 |>.set 15 v2 |>.set 12 v2 |>.set 17 p0 |>.set 18 v3 |>.set 19 v5 |>.set 16 v5) H4 := by kernel_rfl
theorem s25_4 : gOps Try.prog 0 call (opsAt (fAt Try.f25 [1,0,0,1,1,1,0,0])) ((opsAt (fAt Try.f25 [1,0,0,1,1,1,0,0])).drop 0) ((FF 77 fun _ => undef) |>.set 0 p0 |>.set 2 (.int .i64 0) |>.set 13 p0 |>.set 14 v1 |>.set 15 v2 |>.set 12 v2 |>.set 17 p0 |>.set 18 v3 |>.set 19 v5 |>.set 16 v5) H4 K' =
  K' ((FF 77 fun _ => undef) |>.set 0 p0 |>.set 2 (.int .i64 0) |>.set 13 p0 |>.set 14 v1 |>.set 15 v2 |>.set 12 v2 |>.set 17 p0 |>.set 18 v3 |>.set 19 v5 |>.set 16 v5 |>.set 2 (.int .i64 3)) H4 := by kernel_rfl
theorem s25_5 : gOps Try.prog 0 call (opsAt (fAt Try.f25 [1,1,0])) ((opsAt (fAt Try.f25 [1,1,0])).drop 0) ((FF 77 fun _ => undef) |>.set 0 p0 |>.set 2 (.int .i64 0) |>.set 13 p0 |>.set 14 v1 |>.set 15 v2 |>.set 12 v2 |>.set 17 p0 |>.set 18 v3 |>.set 19 v5 |>.set 16 v5) H4 K' =
  K' ((FF 77 fun _ => undef) |>.set 0 p0 |>.set 2 (.int .i64 0) |>.set 13 p0 |>.set 14 v1 |>.set 15 v2 |>.set 12 v2 |>.set 17 p0 |>.set 18 v3 |>.set 19 v5 |>.set 16 v5 |>.set 20 (.map (some H4.n)) |>.set 3 (.map (some H4.n))) (GH.push H4 (.map [] 0)) := by kernel_rfl
theorem s25_6 : gOps Try.prog 0 call (opsAt (fAt Try.f25 [1,1,1,0,0])) ((opsAt (fAt Try.f25 [1,1,1,0,0])).drop 0) ((FF 77 fun _ => undef) |>.set 0 p0 |>.set 2 (.int .i64 0) |>.set 13 p0 |>.set 14 v1 |>.set 15 v2 |>.set 12 v2 |>.set 17 p0 |>.set 18 v3 |>.set 19 v5 |>.set 16 v5 |>.set 20 (.map (some H4.n)) |>.set 3 (.map (some H4.n))) (GH.push H4 (.map [] 0)) K' =
  onV (oLen Try.prog 58 p0) fun v6 =>
  K' ((FF 77 fun _ => undef) |>.set 0 p0 |>.set 2 (.int .i64 0) |>.set 13 p0 |>.set 14 v1 |>.set 15 v2 |>.set 12 v2 |>.set 17 p0 |>.set 18 v3 |>.set 19 v5 |>.set 16 v5 |>.set 20 (.map (some H4.n)) |>.set 3 (.map (some H4.n)) |>.set 21 p0 |>.set 22 v6 |>.set 23 (.int .i64 0)) (GH.push H4 (.map [] 0)) := by kernel_rfl
theorem s25_7 : gOps Try.prog 0 call (opsAt (fAt Try.f25 [1,1,1,0,1,0,0,0])) ((opsAt (fAt Try.f25 [1,1,1,0,1,0,0,0])).drop 0) (FF 77 d) H K' =
  onV ((oBin Try.prog .lss 3 (d 23) (d 22)).filter closed) fun v1 =>
  K' ((FF 77 d) |>.set 24 v1) H := by kernel_rfl
theorem s25_8 : gOps Try.prog 0 call (opsAt (fAt Try.f25 [1,1,1,0,1,0,0,1,1,0,0,0])) ((opsAt (fAt Try.f25 [1,1,1,0,1,0,0,1,1,0,0,0])).drop 0) ((FF 77 d) |>.set 24 v1) H K' =
  onV (oIndexAddr Try.prog 58 (d 21) (d 23)) fun v2 =>
  onV (gLoad Try.prog 59 v2 H) fun v3 =>
  K' ((FF 77 d) |>.set 24 v1 |>.set 25 v2 |>.set 26 v3 |>.set 5 v3) H := by kernel_rfl
theorem s25_9 : gOps Try.prog 0 call (opsAt (fAt Try.f25 [1,1,1,0,1,0,0,1,1,0,0,1,0])) ((opsAt (fAt Try.f25 [1,1,1,0,1,0,0,1,1,0,0,1,0])).drop 0) ((FF 77 d) |>.set 24 v1 |>.set 25 v2 |>.set 26 v3 |>.set 5 v3) H K' =
  onV (oLen Try.prog 59 v3) fun v4 =>
  K' ((FF 77 d) |>.set 24 v1 |>.set 25 v2 |>.set 26 v3 |>.set 5 v3 |>.set 27 v3 |>.set 28 v4 |>.set 29 (.int .i64 0)) H := by kernel_rfl
theorem s25_10 : gOps Try.prog 0 call (opsAt (fAt Try.f25 [1,1,1,0,1,0,0,1,1,0,0,1,1,0,0,0])) ((opsAt (fAt Try.f25 [1,1,1,0,1,0,0,1,1,0,0,1,1,0,0,0])).drop 0) (FF 77 d) H K' =
  onV ((oBin Try.prog .lss 3 (d 29) (d 28)).filter closed) fun v1 =>
  K' ((FF 77 d) |>.set 30 v1) H := by kernel_rfl
theorem s25_11 : gOps Try.prog 0 call (opsAt (fAt Try.f25 [1,1,1,0,1,0,0,1,1,0,0,1,1,0,0,1,1,0,0,0])) ((opsAt (fAt Try.f25 [1,1,1,0,1,0,0,1,1,0,0,1,1,0,0,1,1,0,0,0])).drop 0) ((FF 77 d) |>.set 30 v1) H K' =
  onV (oIndexAddr Try.prog 59 (d 27) (d 29)) fun v2 =>
  onV (gLoad Try.prog 62 v2 H) fun v3 =>
  onH (gStore Try.prog 62 (.pointer (some ⟨H.n, 0, none⟩)) v3 (GH.push H (.row [(.int .u8 0), (.bool false), (.slice none 0 0), (.slice none 0 0)] 62 false))) fun H4 =>
  K' ((FF 77 d) |>.set 30 v1 |>.set 31 (d 29) |>.set 32 v2 |>.set 33 v3 |>.set 7 (.pointer (some ⟨H.n, 0, none⟩)) |>.set 6 (d 29)) H4 := by kernel_rfl
theorem s25_12 : gOps Try.prog 0 call (opsAt (fAt Try.f25 [1,1,1,0,1,0,0,1,1,1])) ((opsAt (fAt Try.f25 [1,1,1,0,1,0,0,1,1,1])).drop 0) ((FF 77 d) |>.set 30 v1) H K' =
  onV ((oBin Try.prog .add 3 (d 23) (.int .i64 1)).filter closed) fun v5 =>
  K' ((FF 77 d) |>.set 30 v1 |>.set 62 v5 |>.set 23 v5) H := by kernel_rfl
theorem s25_13 : gOps Try.prog 0 call (opsAt (fAt Try.f25 [1,1,1,1,0,0])) ((opsAt (fAt Try.f25 [1,1,1,1,0,0])).drop 0) (FF 77 d) H K' =
  onVH (gRange Try.prog 163 (d 3) H) fun v1 H2 =>
  K' ((FF 77 d) |>.set 63 (d 3) |>.set 64 v1) H2 := by kernel_rfl
theorem s25_14 : gOps Try.prog 0 call (opsAt (fAt Try.f25 [1,1,1,0,1,0,0,1,1,0,0,1,1,0,0,1,1,0,0,1,0,0])) (((opsAt (fAt Try.f25 [1,1,1,0,1,0,0,1,1,0,0,1,1,0,0,1,1,0,0,1,0,0])).drop 0).take 5) (FF 77 d) H K' =
  onV (gLoad Try.prog 62 (d 7) H) fun v1 =>
  onCall 0 call (.func (.func 78) #[] #[]) [(d 0), v1] H fun v2 H3 =>
  onV ((oUn Try.prog .not v2).filter closed) fun v4 =>
  onGrd true v4 (K' ((FF 77 d) |>.set 34 (d 0) |>.set 35 v1 |>.set 36 v2 |>.set 37 v4 |>.set 38 v4) H3) := by kernel_rfl
theorem s25_15 : gOps Try.prog 0 call (opsAt (fAt Try.f25 [1,1,1,1,0,1,0,0,0])) ((opsAt (fAt Try.f25 [1,1,1,1,0,1,0,0,0])).drop 0) (FF 77 d) H K' =
  onNext 0 (gNext (d 64) false H) fun v1 H2 =>
  onV (oExtract v1 0) fun v3 =>
  K' ((FF 77 d) |>.set 65 v1 |>.set 66 v3) H2 := by kernel_rfl
theorem s25_16 : gOps Try.prog 0 call (opsAt (fAt Try.f25 [1,1,1,1,0,1,0,0,1,1,0,0])) ((opsAt (fAt Try.f25 [1,1,1,1,0,1,0,0,1,1,0,0])).drop 0) ((FF 77 d) |>.set 65 v1 |>.set 66 v3) H2 K' =
  onV (gEntry (d 64) H2) fun v4 =>
  onV (oExtract v4 1) fun v5 =>
  K' ((FF 77 d) |>.set 65 v1 |>.set 66 v3 |>.set 67 v4 |>.set 68 v5 |>.set 11 v5) H2 := by kernel_rfl
theorem s25_17 : gOps Try.prog 0 call (opsAt (fAt Try.f25 [1,1,1,1,0,1,0,0,1,1,0,1,0])) ((opsAt (fAt Try.f25 [1,1,1,1,0,1,0,0,1,1,0,1,0])).drop 0) ((FF 77 d) |>.set 65 v1 |>.set 66 v3 |>.set 67 v4 |>.set 68 v5 |>.set 11 v5) H2 K' =
  onV ((oBin Try.prog .gtr 3 v5 (.int .i64 1)).filter closed) fun v6 =>
  K' ((FF 77 d) |>.set 65 v1 |>.set 66 v3 |>.set 67 v4 |>.set 68 v5 |>.set 11 v5 |>.set 69 v5 |>.set 70 v6) H2 := by kernel_rfl
theorem s25_18 : gOps Try.prog 0 call (opsAt (fAt Try.f25 [1,1,1,1,0,1,0,0,1,1,0,1,1,0,0])) ((opsAt (fAt Try.f25 [1,1,1,1,0,1,0,0,1,1,0,1,1,0,0])).drop 0) ((FF 77 d) |>.set 65 v1 |>.set 66 v3 |>.set 67 v4 |>.set 68 v5 |>.set 11 v5 |>.set 69 v5 |>.set 70 v6) H2 K' =
  K' ((FF 77 d) |>.set 65 v1 |>.set 66 v3 |>.set 67 v4 |>.set 68 v5 |>.set 11 v5 |>.set 69 v5 |>.set 70 v6 |>.set 2 (.int .i64 8)) H2 := by kernel_rfl
theorem s25_19 : gOps Try.prog 0 call (opsAt (fAt Try.f25 [1,1,1,0,1,0,0,1,1,0,0,1,1,0,0,1,1,0,0,1,0,0])) ((opsAt (fAt Try.f25 [1,1,1,0,1,0,0,1,1,0,0,1,1,0,0,1,1,0,0,1,0,0])).drop 5) ((FF 77 d) |>.set 38 (.bool true)) H K' =
  K' ((FF 77 d) |>.set 38 (.bool true) |>.set 39 undef |>.set 40 undef |>.set 41 undef |>.set 42 undef |>.set 43 undef |>.set 44 undef |>.set 45 undef |>.set 46 (.bool true)) H := by kernel_rfl
theorem s25_20 : gOps Try.prog 0 call (opsAt (fAt Try.f25 [1,1,1,0,1,0,0,1,1,0,0,1,1,0,0,1,1,0,0,1,0,1,0,0])) ((opsAt (fAt Try.f25 [1,1,1,0,1,0,0,1,1,0,0,1,1,0,0,1,1,0,0,1,0,1,0,0])).drop 0) ((FF 77 d) |>.set 38 (.bool true) |>.set 39 undef |>.set 40 undef |>.set 41 undef |>.set 42 undef |>.set 43 undef |>.set 44 undef |>.set 45 undef |>.set 46 (.bool true)) H K' =
  K' ((FF 77 d) |>.set 38 (.bool true) |>.set 39 undef |>.set 40 undef |>.set 41 undef |>.set 42 undef |>.set 43 undef |>.set 44 undef |>.set 45 undef |>.set 46 (.bool true) |>.set 2 (.int .i64 1)) H := by kernel_rfl
theorem s25_21 : gOps Try.prog 0 call (opsAt (fAt Try.f25 [1,1,1,0,1,0,0,1,1,0,0,1,1,0,0,1,1,0,0,1,0,0])) (((opsAt (fAt Try.f25 [1,1,1,0,1,0,0,1,1,0,0,1,1,0,0,1,1,0,0,1,0,0])).drop 5).take 3) ((FF 77 d) |>.set 38 (.bool false)) H K' =
  onV ((oBin Try.prog .eql 3 (d 6) (.int .i64 0)).filter closed) fun v1 =>
  onGrd true v1 (K' ((FF 77 d) |>.set 38 (.bool false) |>.set 39 (d 6) |>.set 40 v1 |>.set 41 v1) H) := by kernel_rfl
theorem s25_22 : gOps Try.prog 0 call (opsAt (fAt Try.f25 [1,1,1,1,1,0,0])) ((opsAt (fAt Try.f25 [1,1,1,1,1,0,0])).drop 0) (FF 77 d) H K' =
  onCall 0 call (.func (.func 77) #[] #[]) [(d 0)] H fun v1 H2 =>
  onV (oLen Try.prog 26 v1) fun v3 =>
  onCall 0 call (.func (.func 73) #[] #[]) [(d 0)] H2 fun v4 H5 =>
  onV ((oBin Try.prog .neq 3 v3 v4).filter closed) fun v6 =>
  K' ((FF 77 d) |>.set 71 (d 0) |>.set 72 v1 |>.set 73 v3 |>.set 74 (d 0) |>.set 75 v4 |>.set 76 v6) H5 := by kernel_rfl
theorem s25_23 : gOps Try.prog 0 call (opsAt (fAt Try.f25 [1,1,1,1,1,0,1,0,0])) ((opsAt (fAt Try.f25 [1,1,1,1,1,0,1,0,0])).drop 0) ((FF 77 d) |>.set 71 (d 0) |>.set 72 v1 |>.set 73 v3 |>.set 74 (d 0) |>.set 75 v4 |>.set 76 v6) H5 K' =
  K' ((FF 77 d) |>.set 71 (d 0) |>.set 72 v1 |>.set 73 v3 |>.set 74 (d 0) |>.set 75 v4 |>.set 76 v6 |>.set 2 (.int .i64 6)) H5 := by kernel_rfl
theorem s25_24 : gOps Try.prog 0 call (opsAt (fAt Try.f25 [1,1,1,1,1,1,0])) ((opsAt (fAt Try.f25 [1,1,1,1,1,1,0])).drop 0) ((FF 77 d) |>.set 71 (d 0) |>.set 72 v1 |>.set 73 v3 |>.set 74 (d 0) |>.set 75 v4 |>.set 76 v6) H5 K' =
  K' ((FF 77 d) |>.set 71 (d 0) |>.set 72 v1 |>.set 73 v3 |>.set 74 (d 0) |>.set 75 v4 |>.set 76 v6 |>.set 2 (.int .i64 0)) H5 := by kernel_rfl
theorem s25_25 : gOps Try.prog 0 call (opsAt (fAt Try.f25 [1,1,1,0,1,0,0,1,1,0,0,1,1,0,0,1,1,0,0,1,0,0])) ((opsAt (fAt Try.f25 [1,1,1,0,1,0,0,1,1,0,0,1,1,0,0,1,1,0,0,1,0,0])).drop 8) ((FF 77 d) |>.set 38 (.bool false) |>.set 41 (.bool true)) H K' =
  onV (oFieldAddr Try.prog 62 (d 7) 1) fun v1 =>
  onV (gLoad Try.prog 4 v1 H) fun v2 =>
  onV ((oUn Try.prog .not v2).filter closed) fun v3 =>
  K' ((FF 77 d) |>.set 38 (.bool false) |>.set 41 (.bool true) |>.set 42 v1 |>.set 43 v2 |>.set 44 v3 |>.set 45 v3 |>.set 46 v3) H := by kernel_rfl
theorem s25_26 : gOps Try.prog 0 call (opsAt (fAt Try.f25 [1,1,1,0,1,0,0,1,1,0,0,1,1,0,0,1,1,0,0,1,0,1,0,0])) ((opsAt (fAt Try.f25 [1,1,1,0,1,0,0,1,1,0,0,1,1,0,0,1,1,0,0,1,0,1,0,0])).drop 0) ((FF 77 d) |>.set 38 (.bool false) |>.set 41 (.bool true) |>.set 42 v1 |>.set 43 v2 |>.set 44 v3 |>.set 45 v3 |>.set 46 v3) H K' =
  K' ((FF 77 d) |>.set 38 (.bool false) |>.set 41 (.bool true) |>.set 42 v1 |>.set 43 v2 |>.set 44 v3 |>.set 45 v3 |>.set 46 v3 |>.set 2 (.int .i64 1)) H := by kernel_rfl
theorem s25_27 : gOps Try.prog 0 call (opsAt (fAt Try.f25 [1,1,1,0,1,0,0,1,1,0,0,1,1,0,0,1,1,0,0,1,1,0])) ((opsAt (fAt Try.f25 [1,1,1,0,1,0,0,1,1,0,0,1,1,0,0,1,1,0,0,1,1,0])).drop 0) ((FF 77 d) |>.set 38 (.bool false) |>.set 41 (.bool true) |>.set 42 v1 |>.set 43 v2 |>.set 44 v3 |>.set 45 v3 |>.set 46 v3) H K' =
  onV (oFieldAddr Try.prog 62 (d 7) 2) fun v4 =>
  onV (gLoad Try.prog 26 v4 H) fun v5 =>
  onV (oLen Try.prog 26 v5) fun v6 =>
  K' ((FF 77 d) |>.set 38 (.bool false) |>.set 41 (.bool true) |>.set 42 v1 |>.set 43 v2 |>.set 44 v3 |>.set 45 v3 |>.set 46 v3 |>.set 47 v4 |>.set 48 v5 |>.set 49 v6 |>.set 50 (.int .i64 0)) H := by kernel_rfl
theorem s25_28 : gOps Try.prog 0 call (opsAt (fAt Try.f25 [1,1,1,0,1,0,0,1,1,0,0,1,1,0,0,1,1,0,0,1,0,0])) ((opsAt (fAt Try.f25 [1,1,1,0,1,0,0,1,1,0,0,1,1,0,0,1,1,0,0,1,0,0])).drop 8) ((FF 77 d) |>.set 38 (.bool false) |>.set 41 (.bool false)) H K' =
  K' ((FF 77 d) |>.set 38 (.bool false) |>.set 41 (.bool false) |>.set 42 undef |>.set 43 undef |>.set 44 undef |>.set 45 (.bool false) |>.set 46 (.bool false)) H := by kernel_rfl
theorem s25_29 : gOps Try.prog 0 call (opsAt (fAt Try.f25 [1,1,1,0,1,0,0,1,1,0,0,1,1,0,0,1,1,0,0,1,1,0])) ((opsAt (fAt Try.f25 [1,1,1,0,1,0,0,1,1,0,0,1,1,0,0,1,1,0,0,1,1,0])).drop 0) ((FF 77 d) |>.set 38 (.bool false) |>.set 41 (.bool false) |>.set 42 undef |>.set 43 undef |>.set 44 undef |>.set 45 (.bool false) |>.set 46 (.bool false)) H K' =
  onV (oFieldAddr Try.prog 62 (d 7) 2) fun v1 =>
  onV (gLoad Try.prog 26 v1 H) fun v2 =>
  onV (oLen Try.prog 26 v2) fun v3 =>
  K' ((FF 77 d) |>.set 38 (.bool false) |>.set 41 (.bool false) |>.set 42 undef |>.set 43 undef |>.set 44 undef |>.set 45 (.bool false) |>.set 46 (.bool false) |>.set 47 v1 |>.set 48 v2 |>.set 49 v3 |>.set 50 (.int .i64 0)) H := by kernel_rfl
theorem s25_30 : gOps Try.prog 0 call (opsAt (fAt Try.f25 [1,1,1,0,1,0,0,1,1,0,0,1,1,0,0,1,1,0,0,1,1,1,0,0,0])) ((opsAt (fAt Try.f25 [1,1,1,0,1,0,0,1,1,0,0,1,1,0,0,1,1,0,0,1,1,1,0,0,0])).drop 0) (FF 77 d) H K' =
  onV ((oBin Try.prog .lss 3 (d 50) (d 49)).filter closed) fun v1 =>
  K' ((FF 77 d) |>.set 51 v1) H := by kernel_rfl
theorem s25_31 : gOps Try.prog 0 call (opsAt (fAt Try.f25 [1,1,1,0,1,0,0,1,1,0,0,1,1,0,0,1,1,0,0,1,1,1,0,0,1,1,0,0,0])) ((opsAt (fAt Try.f25 [1,1,1,0,1,0,0,1,1,0,0,1,1,0,0,1,1,0,0,1,1,1,0,0,1,1,0,0,0])).drop 0) ((FF 77 d) |>.set 51 v1) H K' =
  onV (oIndexAddr Try.prog 26 (d 48) (d 50)) fun v2 =>
  onV (gLoad Try.prog 29 v2 H) fun v3 =>
  onH (gStore Try.prog 29 (.pointer (some ⟨H.n, 0, none⟩)) v3 (GH.push H (.row [(.int .u8 0), (.int .i64 0)] 29 false))) fun H4 =>
  K' ((FF 77 d) |>.set 51 v1 |>.set 52 v2 |>.set 53 v3 |>.set 9 (.pointer (some ⟨H.n, 0, none⟩))) H4 := by kernel_rfl
theorem s25_32 : gOps Try.prog 3 call (opsAt (fAt Try.f25 [1,1,1,0,1,0,0,1,1,0,0,1,1,0,0,1,1,0,0,1,1,1,0,0,1,1,0,0,1])) ((opsAt (fAt Try.f25 [1,1,1,0,1,0,0,1,1,0,0,1,1,0,0,1,1,0,0,1,1,1,0,0,1,1,0,0,1])).drop 0) ((FF 77 d) |>.set 51 v1 |>.set 52 v2 |>.set 53 v3 |>.set 9 (.pointer (some ⟨H.n, 0, none⟩))) H4 K' =
  onV (gLoad Try.prog 29 (.pointer (some ⟨H.n, 0, none⟩)) H4) fun v5 =>
  onV (gLookup Try.prog 163 (d 3) v5 false H4) fun v6 =>
  onV ((oBin Try.prog .add 3 v6 (.int .i64 1)).filter closed) fun v7 =>
  onVH (gMapEntryQ Try.prog 163 (d 3) v5 H4) fun v8 H9 =>
  onV (oExtract v8 1) fun v10 =>
  onH (gEntryStore (d 3) v10 v7 H9) fun H11 =>
  K' ((FF 77 d) |>.set 51 v1 |>.set 52 v2 |>.set 53 v3 |>.set 9 (.pointer (some ⟨H.n, 0, none⟩)) |>.set 54 (d 3) |>.set 55 v5 |>.set 56 v6 |>.set 57 v7 |>.set 58 v8 |>.set 59 v10) H11 := by kernel_rfl
theorem s25_33 : gOps Try.prog 0 call (opsAt (fAt Try.f25 [1,1,1,0,1,0,0,1,1,0,0,1,1,0,0,1,1,1])) ((opsAt (fAt Try.f25 [1,1,1,0,1,0,0,1,1,0,0,1,1,0,0,1,1,1])).drop 0) ((FF 77 d) |>.set 51 v1) H K' =
  onV ((oBin Try.prog .add 3 (d 29) (.int .i64 1)).filter closed) fun v12 =>
  K' ((FF 77 d) |>.set 51 v1 |>.set 61 v12 |>.set 29 v12) H := by kernel_rfl
theorem s25_34 : gOps Try.prog 0 call (opsAt (fAt Try.f25 [1,1,1,0,1,0,0,1,1,0,0,1,1,0,0,1,1,0,0,1,1,1,0,0,1,1,1])) ((opsAt (fAt Try.f25 [1,1,1,0,1,0,0,1,1,0,0,1,1,0,0,1,1,0,0,1,1,1,0,0,1,1,1])).drop 0) (FF 77 d) H K' =
  onV ((oBin Try.prog .add 3 (d 50) (.int .i64 1)).filter closed) fun v1 =>
  K' ((FF 77 d) |>.set 60 v1 |>.set 50 v1) H := by kernel_rfl
def f25_l22_P (ag : GA → GH → M (Value × GH)) (sg : Value → Value → GH → M (Value × GH)) : Prop := ∀ (d : Nat → Value) (H : GH), ag (FF 77 d) H = sg (d 0) (d 64) H
theorem f25_l22_at {ag : GA → GH → M (Value × GH)} {sg : Value → Value → GH → M (Value × GH)} (h : f25_l22_P ag sg) : ag (FF 77 d) H = sg (d 0) (d 64) H := h d H
def f25_l15_P (ag : GA → GH → M (Value × GH)) (sg : Value → Value → Value → Value → Value → Value → Value → Value → Value → Value → Value → GH → M (Value × GH)) : Prop := ∀ (d : Nat → Value) (H : GH), ag (FF 77 d) H = sg (d 0) (d 3) (d 21) (d 22) (d 23) (d 27) (d 28) (d 29) (d 48) (d 49) (d 50) H
theorem f25_l15_at {ag : GA → GH → M (Value × GH)} {sg : Value → Value → Value → Value → Value → Value → Value → Value → Value → Value → Value → GH → M (Value × GH)} (h : f25_l15_P ag sg) : ag (FF 77 d) H = sg (d 0) (d 3) (d 21) (d 22) (d 23) (d 27) (d 28) (d 29) (d 48) (d 49) (d 50) H := h d H
def f25_l10_P (ag : GA → GH → M (Value × GH)) (sg : Value → Value → Value → Value → Value → Value → Value → Value → GH → M (Value × GH)) : Prop := ∀ (d : Nat → Value) (H : GH), ag (FF 77 d) H = sg (d 0) (d 3) (d 21) (d 22) (d 23) (d 27) (d 28) (d 29) H
theorem f25_l10_at {ag : GA → GH → M (Value × GH)} {sg : Value → Value → Value → Value → Value → Value → Value → Value → GH → M (Value × GH)} (h : f25_l10_P ag sg) : ag (FF 77 d) H = sg (d 0) (d 3) (d 21) (d 22) (d 23) (d 27) (d 28) (d 29) H := h d H
def f25_l7_P (ag : GA → GH → M (Value × GH)) (sg : Value → Value → Value → Value → Value → GH → M (Value × GH)) : Prop := ∀ (d : Nat → Value) (H : GH), ag (FF 77 d) H = sg (d 0) (d 3) (d 21) (d 22) (d 23) H
theorem f25_l7_at {ag : GA → GH → M (Value × GH)} {sg : Value → Value → Value → Value → Value → GH → M (Value × GH)} (h : f25_l7_P ag sg) : ag (FF 77 d) H = sg (d 0) (d 3) (d 21) (d 22) (d 23) H := h d H
noncomputable def f25_r26 (call : Handle) (k : Nat) (x0 : Value) (H : GH) : M (Value × GH) :=
  onCall 0 call (.func (.func 77) #[] #[]) [x0] H fun v1 H2 =>
  onV (oLen Try.prog 26 v1) fun v3 =>
  onCall 0 call (.func (.func 73) #[] #[]) [x0] H2 fun v4 H5 =>
  onV ((oBin Try.prog .neq 3 v3 v4).filter closed) fun v6 =>
  onBool (asB v6)
  (some [((.int .i64 6), H5)])
  (some [((.int .i64 0), H5)])
theorem f25_r26_eq (call : Handle) (k : Nat) : gCode Try.prog call k (fAt Try.f25 [1,1,1,1,1]) (FF 77 d) H (hFin Try.prog Try.f25) = f25_r26 call k (d 0) H := by
  unfold f25_r26
  rw [n25_77]
  rw [n25_78]
  rw [n25_79]
  rw [s25_22]
  refine onCall_c fun v1 H2 => ?_
  refine onV_c fun v3 => ?_
  refine onCall_c fun v4 H5 => ?_
  refine onV_c fun v6 => ?_
  rw [hSeq_n]
  rw [n25_80]
  refine onBool_cc (by kernel_rfl) ?_ ?_
  · rw [n25_81]
    rw [n25_82]
    rw [s25_23]
    rw [hSeq_n]
    rw [n25_83]
    rw [hSeq_r]
    kernel_rfl
  · rw [n25_84]
    rw [hSeq_n]
    rw [n25_85]
    rw [n25_86]
    rw [s25_24]
    rw [hSeq_n]
    rw [n25_87]
    kernel_rfl
noncomputable def f25_l22b (call : Handle) (k : Nat) (sg_l22 : Value → Value → GH → M (Value × GH)) (x0 x64 : Value) (H : GH) : M (Value × GH) :=
  onNext 0 (gNext x64 false H) fun v1 H2 =>
  onV (oExtract v1 0) fun v3 =>
  onBool (asB v3)
  (onV (gEntry x64 H2) fun v4 =>
  onV (oExtract v4 1) fun v5 =>
  onV ((oBin Try.prog .gtr 3 v5 (.int .i64 1)).filter closed) fun v6 =>
  onBool (asB v6)
  (some [((.int .i64 8), H2)])
  ((sg_l22 x0 x64 H2)))
  ((f25_r26 call k x0 H2))
theorem f25_l22b_eq (call : Handle) (k : Nat) (ag_l22 : GA → GH → M (Value × GH)) (sg_l22 : Value → Value → GH → M (Value × GH)) (h_l22 : f25_l22_P ag_l22 sg_l22) : gCode Try.prog call k (fAt Try.f25 [1,1,1,1,0,1,0,0]) (FF 77 d) H (hLoop ag_l22 (hBlock 7 (hSeq (gCode Try.prog call k (fAt Try.f25 [1,1,1,1,1])) (hFin Try.prog Try.f25)))) = f25_l22b call k sg_l22 (d 0) (d 64) H := by
  unfold f25_l22b
  rw [n25_57]
  rw [n25_58]
  rw [s25_15]
  refine onNext_c fun v1 H2 => ?_
  refine onV_c fun v3 => ?_
  rw [hSeq_n]
  rw [n25_59]
  rw [n25_60]
  refine onBool_cc (by kernel_rfl) ?_ ?_
  · rw [n25_61]
    rw [hSeq_n]
    rw [n25_62]
    rw [n25_63]
    rw [n25_64]
    rw [s25_16]
    refine onV_c fun v4 => ?_
    refine onV_c fun v5 => ?_
    rw [hSeq_n]
    rw [n25_65]
    rw [n25_66]
    rw [s25_17]
    refine onV_c fun v6 => ?_
    rw [hSeq_n]
    rw [n25_67]
    refine onBool_cc (by kernel_rfl) ?_ ?_
    · rw [n25_68]
      rw [n25_69]
      rw [s25_18]
      rw [hSeq_n]
      rw [n25_70]
      rw [hBlock_r, hLoop_r, hBlock_r, hSeq_r]
      kernel_rfl
    · rw [n25_71]
      rw [hBlock_n]
      rw [hLoop_n]
      rw [show ((FF 77 d) |>.set 65 v1 |>.set 66 v3 |>.set 67 v4 |>.set 68 v5 |>.set 11 v5 |>.set 69 v5 |>.set 70 v6) = (FF 77 (gf ((FF 77 d) |>.set 65 v1 |>.set 66 v3 |>.set 67 v4 |>.set 68 v5 |>.set 11 v5 |>.set 69 v5 |>.set 70 v6))) from by kernel_rfl]
      exact (f25_l22_at (d := gf ((FF 77 d) |>.set 65 v1 |>.set 66 v3 |>.set 67 v4 |>.set 68 v5 |>.set 11 v5 |>.set 69 v5 |>.set 70 v6)) h_l22).trans (by kernel_rfl)
  · rw [n25_72]
    rw [hSeq_e, hLoop_e, hBlock_hit]
    rw [hSeq_n]
    rw [show ((FF 77 d) |>.set 65 v1 |>.set 66 v3) = (FF 77 (gf ((FF 77 d) |>.set 65 v1 |>.set 66 v3))) from by kernel_rfl]
    exact (f25_r26_eq (d := gf ((FF 77 d) |>.set 65 v1 |>.set 66 v3)) call k).trans (by kernel_rfl)
noncomputable def f25_l22 (call : Handle) (k : Nat) : Nat → Value → Value → GH → M (Value × GH)
  | 0, _, _, _ => none
  | r + 1, x0, x64, H => f25_l22b call k (f25_l22 call k r) x0 x64 H
theorem f25_l22_eq (call : Handle) (k : Nat) : ∀ (r : Nat), f25_l22_P (gLoop (gCode Try.prog call k (fAt Try.f25 [1,1,1,1,0,1,0,0])) (hBlock 7 (hSeq (gCode Try.prog call k (fAt Try.f25 [1,1,1,1,1])) (hFin Try.prog Try.f25))) r) (f25_l22 call k r) := by
  intro r
  induction r with
  | zero => unfold f25_l22_P; intros; rfl
  | succ r ih => unfold f25_l22_P; intros; exact f25_l22b_eq call k _ _ ih
noncomputable def f25_r21 (call : Handle) (k : Nat) (x0 x3 : Value) (H : GH) : M (Value × GH) :=
  onVH (gRange Try.prog 163 x3 H) fun v1 H2 =>
  (f25_l22 call k k x0 v1 H2)
theorem f25_r21_eq (call : Handle) (k : Nat) : gCode Try.prog call k (fAt Try.f25 [1,1,1,1]) (FF 77 d) H (hFin Try.prog Try.f25) = f25_r21 call k (d 0) (d 3) H := by
  unfold f25_r21
  rw [n25_51]
  rw [n25_52]
  rw [n25_53]
  rw [s25_13]
  refine onVH_c fun v1 H2 => ?_
  rw [hSeq_n]
  rw [n25_54]
  rw [n25_55]
  rw [show ((FF 77 d) |>.set 63 (d 3) |>.set 64 v1) = (FF 77 (gf ((FF 77 d) |>.set 63 (d 3) |>.set 64 v1))) from by kernel_rfl]
  exact (f25_l22_at (d := gf ((FF 77 d) |>.set 63 (d 3) |>.set 64 v1)) (f25_l22_eq call k k)).trans (by kernel_rfl)
noncomputable def f25_r18 (call : Handle) (k : Nat) (sg_l7 : Value → Value → Value → Value → Value → GH → M (Value × GH)) (sg_l10 : Value → Value → Value → Value → Value → Value → Value → Value → GH → M (Value × GH)) (sg_l15 : Value → Value → Value → Value → Value → Value → Value → Value → Value → Value → Value → GH → M (Value × GH)) (x0 x3 x21 x22 x23 x27 x28 x29 x48 x49 x50 : Value) (H : GH) : M (Value × GH) :=
  onV ((oBin Try.prog .add 3 x50 (.int .i64 1)).filter closed) fun v1 =>
  (sg_l15 x0 x3 x21 x22 x23 x27 x28 x29 x48 x49 v1 H)
theorem f25_r18_eq (call : Handle) (k : Nat) (ag_l7 : GA → GH → M (Value × GH)) (sg_l7 : Value → Value → Value → Value → Value → GH → M (Value × GH)) (h_l7 : f25_l7_P ag_l7 sg_l7) (ag_l10 : GA → GH → M (Value × GH)) (sg_l10 : Value → Value → Value → Value → Value → Value → Value → Value → GH → M (Value × GH)) (h_l10 : f25_l10_P ag_l10 sg_l10) (ag_l15 : GA → GH → M (Value × GH)) (sg_l15 : Value → Value → Value → Value → Value → Value → Value → Value → Value → Value → Value → GH → M (Value × GH)) (h_l15 : f25_l15_P ag_l15 sg_l15) : gCode Try.prog call k (fAt Try.f25 [1,1,1,0,1,0,0,1,1,0,0,1,1,0,0,1,1,0,0,1,1,1,0,0,1,1,1]) (FF 77 d) H (hLoop ag_l15 (hBlock 5 (hBlock 4 (hSeq (gCode Try.prog call k (fAt Try.f25 [1,1,1,0,1,0,0,1,1,0,0,1,1,0,0,1,1,1])) (hLoop ag_l10 (hBlock 3 (hBlock 2 (hSeq (gCode Try.prog call k (fAt Try.f25 [1,1,1,0,1,0,0,1,1,1])) (hLoop ag_l7 (hBlock 1 (hSeq (gCode Try.prog call k (fAt Try.f25 [1,1,1,1])) (hFin Try.prog Try.f25)))))))))))) = f25_r18 call k sg_l7 sg_l10 sg_l15 (d 0) (d 3) (d 21) (d 22) (d 23) (d 27) (d 28) (d 29) (d 48) (d 49) (d 50) H := by
  unfold f25_r18
  rw [n25_105]
  rw [s25_34]
  refine onV_c fun v1 => ?_
  rw [hLoop_n]
  rw [show ((FF 77 d) |>.set 60 v1 |>.set 50 v1) = (FF 77 (gf ((FF 77 d) |>.set 60 v1 |>.set 50 v1))) from by kernel_rfl]
  exact (f25_l15_at (d := gf ((FF 77 d) |>.set 60 v1 |>.set 50 v1)) h_l15).trans (by kernel_rfl)
noncomputable def f25_l15b (call : Handle) (k : Nat) (sg_l7 : Value → Value → Value → Value → Value → GH → M (Value × GH)) (sg_l10 : Value → Value → Value → Value → Value → Value → Value → Value → GH → M (Value × GH)) (sg_l15 : Value → Value → Value → Value → Value → Value → Value → Value → Value → Value → Value → GH → M (Value × GH)) (x0 x3 x21 x22 x23 x27 x28 x29 x48 x49 x50 : Value) (H : GH) : M (Value × GH) :=
  onV ((oBin Try.prog .lss 3 x50 x49).filter closed) fun v1 =>
  onBool (asB v1)
  (onV (oIndexAddr Try.prog 26 x48 x50) fun v2 =>
  onV (gLoad Try.prog 29 v2 H) fun v3 =>
  onH (gStore Try.prog 29 (.pointer (some ⟨H.n, 0, none⟩)) v3 (GH.push H (.row [(.int .u8 0), (.int .i64 0)] 29 false))) fun H4 =>
  onV (gLoad Try.prog 29 (.pointer (some ⟨H.n, 0, none⟩)) H4) fun v5 =>
  onV (gLookup Try.prog 163 x3 v5 false H4) fun v6 =>
  onV ((oBin Try.prog .add 3 v6 (.int .i64 1)).filter closed) fun v7 =>
  onVH (gMapEntryQ Try.prog 163 x3 v5 H4) fun v8 H9 =>
  onV (oExtract v8 1) fun v10 =>
  onH (gEntryStore x3 v10 v7 H9) fun H11 =>
  (f25_r18 call k (sg_l7) (sg_l10) (sg_l15) x0 x3 x21 x22 x23 x27 x28 x29 x48 x49 x50 H11))
  (onV ((oBin Try.prog .add 3 x29 (.int .i64 1)).filter closed) fun v12 =>
  (sg_l10 x0 x3 x21 x22 x23 x27 x28 v12 H))
theorem f25_l15b_eq (call : Handle) (k : Nat) (ag_l7 : GA → GH → M (Value × GH)) (sg_l7 : Value → Value → Value → Value → Value → GH → M (Value × GH)) (h_l7 : f25_l7_P ag_l7 sg_l7) (ag_l10 : GA → GH → M (Value × GH)) (sg_l10 : Value → Value → Value → Value → Value → Value → Value → Value → GH → M (Value × GH)) (h_l10 : f25_l10_P ag_l10 sg_l10) (ag_l15 : GA → GH → M (Value × GH)) (sg_l15 : Value → Value → Value → Value → Value → Value → Value → Value → Value → Value → Value → GH → M (Value × GH)) (h_l15 : f25_l15_P ag_l15 sg_l15) : gCode Try.prog call k (fAt Try.f25 [1,1,1,0,1,0,0,1,1,0,0,1,1,0,0,1,1,0,0,1,1,1,0,0]) (FF 77 d) H (hLoop ag_l15 (hBlock 5 (hBlock 4 (hSeq (gCode Try.prog call k (fAt Try.f25 [1,1,1,0,1,0,0,1,1,0,0,1,1,0,0,1,1,1])) (hLoop ag_l10 (hBlock 3 (hBlock 2 (hSeq (gCode Try.prog call k (fAt Try.f25 [1,1,1,0,1,0,0,1,1,1])) (hLoop ag_l7 (hBlock 1 (hSeq (gCode Try.prog call k (fAt Try.f25 [1,1,1,1])) (hFin Try.prog Try.f25)))))))))))) = f25_l15b call k sg_l7 sg_l10 sg_l15 (d 0) (d 3) (d 21) (d 22) (d 23) (d 27) (d 28) (d 29) (d 48) (d 49) (d 50) H := by
  unfold f25_l15b
  rw [n25_93]
  rw [n25_94]
  rw [s25_30]
  refine onV_c fun v1 => ?_
  rw [hSeq_n]
  rw [n25_95]
  rw [n25_96]
  refine onBool_cc (by kernel_rfl) ?_ ?_
  · rw [n25_97]
    rw [hSeq_n]
    rw [n25_98]
    rw [n25_99]
    rw [n25_100]
    rw [n25_101]
    rw [s25_31]
    refine onV_c fun v2 => ?_
    refine onV_c fun v3 => ?_
    refine onH_c fun H4 => ?_
    rw [hSeq_n]
    rw [n25_102]
    rw [s25_32]
    refine onV_c fun v5 => ?_
    refine onV_c fun v6 => ?_
    refine onV_c fun v7 => ?_
    refine onVH_c fun v8 H9 => ?_
    refine onV_c fun v10 => ?_
    refine onH_c fun H11 => ?_
    rw [hBlock_n]
    rw [hSeq_n]
    rw [show ((FF 77 d) |>.set 51 v1 |>.set 52 v2 |>.set 53 v3 |>.set 9 (.pointer (some ⟨H.n, 0, none⟩)) |>.set 54 (d 3) |>.set 55 v5 |>.set 56 v6 |>.set 57 v7 |>.set 58 v8 |>.set 59 v10) = (FF 77 (gf ((FF 77 d) |>.set 51 v1 |>.set 52 v2 |>.set 53 v3 |>.set 9 (.pointer (some ⟨H.n, 0, none⟩)) |>.set 54 (d 3) |>.set 55 v5 |>.set 56 v6 |>.set 57 v7 |>.set 58 v8 |>.set 59 v10))) from by kernel_rfl]
    exact (f25_r18_eq (d := gf ((FF 77 d) |>.set 51 v1 |>.set 52 v2 |>.set 53 v3 |>.set 9 (.pointer (some ⟨H.n, 0, none⟩)) |>.set 54 (d 3) |>.set 55 v5 |>.set 56 v6 |>.set 57 v7 |>.set 58 v8 |>.set 59 v10)) call k ag_l7 sg_l7 h_l7 ag_l10 sg_l10 h_l10 ag_l15 sg_l15 h_l15).trans (by kernel_rfl)
  · rw [n25_103]
    rw [hSeq_e, hLoop_e, hBlock_hit]
    rw [hBlock_n]
    rw [hSeq_n]
    rw [n25_104]
    rw [s25_33]
    refine onV_c fun v12 => ?_
    rw [hLoop_n]
    rw [show ((FF 77 d) |>.set 51 v1 |>.set 61 v12 |>.set 29 v12) = (FF 77 (gf ((FF 77 d) |>.set 51 v1 |>.set 61 v12 |>.set 29 v12))) from by kernel_rfl]
    exact (f25_l10_at (d := gf ((FF 77 d) |>.set 51 v1 |>.set 61 v12 |>.set 29 v12)) h_l10).trans (by kernel_rfl)
noncomputable def f25_l15 (call : Handle) (k : Nat) (sg_l7 : Value → Value → Value → Value → Value → GH → M (Value × GH)) (sg_l10 : Value → Value → Value → Value → Value → Value → Value → Value → GH → M (Value × GH)) : Nat → Value → Value → Value → Value → Value → Value → Value → Value → Value → Value → Value → GH → M (Value × GH)
  | 0, _, _, _, _, _, _, _, _, _, _, _, _ => none
  | r + 1, x0, x3, x21, x22, x23, x27, x28, x29, x48, x49, x50, H => f25_l15b call k sg_l7 sg_l10 (f25_l15 call k sg_l7 sg_l10 r) x0 x3 x21 x22 x23 x27 x28 x29 x48 x49 x50 H
theorem f25_l15_eq (call : Handle) (k : Nat) (ag_l7 : GA → GH → M (Value × GH)) (sg_l7 : Value → Value → Value → Value → Value → GH → M (Value × GH)) (h_l7 : f25_l7_P ag_l7 sg_l7) (ag_l10 : GA → GH → M (Value × GH)) (sg_l10 : Value → Value → Value → Value → Value → Value → Value → Value → GH → M (Value × GH)) (h_l10 : f25_l10_P ag_l10 sg_l10) : ∀ (r : Nat), f25_l15_P (gLoop (gCode Try.prog call k (fAt Try.f25 [1,1,1,0,1,0,0,1,1,0,0,1,1,0,0,1,1,0,0,1,1,1,0,0])) (hBlock 5 (hBlock 4 (hSeq (gCode Try.prog call k (fAt Try.f25 [1,1,1,0,1,0,0,1,1,0,0,1,1,0,0,1,1,1])) (hLoop ag_l10 (hBlock 3 (hBlock 2 (hSeq (gCode Try.prog call k (fAt Try.f25 [1,1,1,0,1,0,0,1,1,1])) (hLoop ag_l7 (hBlock 1 (hSeq (gCode Try.prog call k (fAt Try.f25 [1,1,1,1])) (hFin Try.prog Try.f25))))))))))) r) (f25_l15 call k sg_l7 sg_l10 r) := by
  intro r
  induction r with
  | zero => unfold f25_l15_P; intros; rfl
  | succ r ih => unfold f25_l15_P; intros; exact f25_l15b_eq call k ag_l7 sg_l7 h_l7 ag_l10 sg_l10 h_l10 _ _ ih
noncomputable def f25_g12_8 (call : Handle) (k : Nat) (sg_l7 : Value → Value → Value → Value → Value → GH → M (Value × GH)) (sg_l10 : Value → Value → Value → Value → Value → Value → Value → Value → GH → M (Value × GH)) (x41 : Value) (x0 x3 x7 x21 x22 x23 x27 x28 x29 : Value) (H : GH) : M (Value × GH) :=
 onBool (asB x41)
  (onV (oFieldAddr Try.prog 62 x7 1) fun v1 =>
  onV (gLoad Try.prog 4 v1 H) fun v2 =>
  onV ((oUn Try.prog .not v2).filter closed) fun v3 =>
  onBool (asB v3)
  (some [((.int .i64 1), H)])
  (onV (oFieldAddr Try.prog 62 x7 2) fun v4 =>
  onV (gLoad Try.prog 26 v4 H) fun v5 =>
  onV (oLen Try.prog 26 v5) fun v6 =>
  (f25_l15 call k (sg_l7) (sg_l10) k x0 x3 x21 x22 x23 x27 x28 x29 v5 v6 (.int .i64 0) H)))
  (onV (oFieldAddr Try.prog 62 x7 2) fun v1 =>
  onV (gLoad Try.prog 26 v1 H) fun v2 =>
  onV (oLen Try.prog 26 v2) fun v3 =>
  (f25_l15 call k (sg_l7) (sg_l10) k x0 x3 x21 x22 x23 x27 x28 x29 v2 v3 (.int .i64 0) H))
theorem f25_g12_8_true (call : Handle) (k : Nat) (ag_l7 : GA → GH → M (Value × GH)) (sg_l7 : Value → Value → Value → Value → Value → GH → M (Value × GH)) (h_l7 : f25_l7_P ag_l7 sg_l7) (ag_l10 : GA → GH → M (Value × GH)) (sg_l10 : Value → Value → Value → Value → Value → Value → Value → Value → GH → M (Value × GH)) (h_l10 : f25_l10_P ag_l10 sg_l10) : gOps Try.prog 0 call (opsAt (fAt Try.f25 [1,1,1,0,1,0,0,1,1,0,0,1,1,0,0,1,1,0,0,1,0,0])) ((opsAt (fAt Try.f25 [1,1,1,0,1,0,0,1,1,0,0,1,1,0,0,1,1,0,0,1,0,0])).drop 8) ((FF 77 d) |>.set 38 (.bool false) |>.set 41 (.bool true)) H ((hSeq (gCode Try.prog call k (fAt Try.f25 [1,1,1,0,1,0,0,1,1,0,0,1,1,0,0,1,1,0,0,1,0,1])) (hSeq (gCode Try.prog call k (fAt Try.f25 [1,1,1,0,1,0,0,1,1,0,0,1,1,0,0,1,1,0,0,1,1])) (hBlock 4 (hSeq (gCode Try.prog call k (fAt Try.f25 [1,1,1,0,1,0,0,1,1,0,0,1,1,0,0,1,1,1])) (hLoop ag_l10 (hBlock 3 (hBlock 2 (hSeq (gCode Try.prog call k (fAt Try.f25 [1,1,1,0,1,0,0,1,1,1])) (hLoop ag_l7 (hBlock 1 (hSeq (gCode Try.prog call k (fAt Try.f25 [1,1,1,1])) (hFin Try.prog Try.f25)))))))))))) .normal) =
  onV (oFieldAddr Try.prog 62 (d 7) 1) fun v1 =>
  onV (gLoad Try.prog 4 v1 H) fun v2 =>
  onV ((oUn Try.prog .not v2).filter closed) fun v3 =>
  onBool (asB v3)
  (some [((.int .i64 1), H)])
  (onV (oFieldAddr Try.prog 62 (d 7) 2) fun v4 =>
  onV (gLoad Try.prog 26 v4 H) fun v5 =>
  onV (oLen Try.prog 26 v5) fun v6 =>
  (f25_l15 call k (sg_l7) (sg_l10) k (d 0) (d 3) (d 21) (d 22) (d 23) (d 27) (d 28) (d 29) v5 v6 (.int .i64 0) H)) := by
  rw [s25_25]
  refine onV_c fun v1 => ?_
  refine onV_c fun v2 => ?_
  refine onV_c fun v3 => ?_
  rw [hSeq_n]
  rw [n25_73]
  refine onBool_cc (by kernel_rfl) ?_ ?_
  · rw [n25_74]
    rw [n25_75]
    rw [s25_26]
    rw [hSeq_n]
    rw [n25_76]
    rw [hSeq_r, hBlock_r, hSeq_r, hLoop_r, hBlock_r, hBlock_r, hSeq_r, hLoop_r, hBlock_r, hSeq_r]
    kernel_rfl
  · rw [n25_88]
    rw [hSeq_n]
    rw [n25_89]
    rw [n25_90]
    rw [s25_27]
    refine onV_c fun v4 => ?_
    refine onV_c fun v5 => ?_
    refine onV_c fun v6 => ?_
    rw [hSeq_n]
    rw [n25_91]
    rw [n25_92]
    rw [show ((FF 77 d) |>.set 38 (.bool false) |>.set 41 (.bool true) |>.set 42 v1 |>.set 43 v2 |>.set 44 v3 |>.set 45 v3 |>.set 46 v3 |>.set 47 v4 |>.set 48 v5 |>.set 49 v6 |>.set 50 (.int .i64 0)) = (FF 77 (gf ((FF 77 d) |>.set 38 (.bool false) |>.set 41 (.bool true) |>.set 42 v1 |>.set 43 v2 |>.set 44 v3 |>.set 45 v3 |>.set 46 v3 |>.set 47 v4 |>.set 48 v5 |>.set 49 v6 |>.set 50 (.int .i64 0)))) from by kernel_rfl]
    exact (f25_l15_at (d := gf ((FF 77 d) |>.set 38 (.bool false) |>.set 41 (.bool true) |>.set 42 v1 |>.set 43 v2 |>.set 44 v3 |>.set 45 v3 |>.set 46 v3 |>.set 47 v4 |>.set 48 v5 |>.set 49 v6 |>.set 50 (.int .i64 0))) (f25_l15_eq call k ag_l7 sg_l7 h_l7 ag_l10 sg_l10 h_l10 k)).trans (by kernel_rfl)
theorem f25_g12_8_false (call : Handle) (k : Nat) (ag_l7 : GA → GH → M (Value × GH)) (sg_l7 : Value → Value → Value → Value → Value → GH → M (Value × GH)) (h_l7 : f25_l7_P ag_l7 sg_l7) (ag_l10 : GA → GH → M (Value × GH)) (sg_l10 : Value → Value → Value → Value → Value → Value → Value → Value → GH → M (Value × GH)) (h_l10 : f25_l10_P ag_l10 sg_l10) : gOps Try.prog 0 call (opsAt (fAt Try.f25 [1,1,1,0,1,0,0,1,1,0,0,1,1,0,0,1,1,0,0,1,0,0])) ((opsAt (fAt Try.f25 [1,1,1,0,1,0,0,1,1,0,0,1,1,0,0,1,1,0,0,1,0,0])).drop 8) ((FF 77 d) |>.set 38 (.bool false) |>.set 41 (.bool false)) H ((hSeq (gCode Try.prog call k (fAt Try.f25 [1,1,1,0,1,0,0,1,1,0,0,1,1,0,0,1,1,0,0,1,0,1])) (hSeq (gCode Try.prog call k (fAt Try.f25 [1,1,1,0,1,0,0,1,1,0,0,1,1,0,0,1,1,0,0,1,1])) (hBlock 4 (hSeq (gCode Try.prog call k (fAt Try.f25 [1,1,1,0,1,0,0,1,1,0,0,1,1,0,0,1,1,1])) (hLoop ag_l10 (hBlock 3 (hBlock 2 (hSeq (gCode Try.prog call k (fAt Try.f25 [1,1,1,0,1,0,0,1,1,1])) (hLoop ag_l7 (hBlock 1 (hSeq (gCode Try.prog call k (fAt Try.f25 [1,1,1,1])) (hFin Try.prog Try.f25)))))))))))) .normal) =
  onV (oFieldAddr Try.prog 62 (d 7) 2) fun v1 =>
  onV (gLoad Try.prog 26 v1 H) fun v2 =>
  onV (oLen Try.prog 26 v2) fun v3 =>
  (f25_l15 call k (sg_l7) (sg_l10) k (d 0) (d 3) (d 21) (d 22) (d 23) (d 27) (d 28) (d 29) v2 v3 (.int .i64 0) H) := by
  rw [s25_28]
  rw [hSeq_n]
  rw [n25_73]
  refine (onBool_ff (by kernel_rfl)).trans ?_
  rw [n25_88]
  rw [hSeq_n]
  rw [n25_89]
  rw [n25_90]
  rw [s25_29]
  refine onV_c fun v1 => ?_
  refine onV_c fun v2 => ?_
  refine onV_c fun v3 => ?_
  rw [hSeq_n]
  rw [n25_91]
  rw [n25_92]
  rw [show ((FF 77 d) |>.set 38 (.bool false) |>.set 41 (.bool false) |>.set 42 undef |>.set 43 undef |>.set 44 undef |>.set 45 (.bool false) |>.set 46 (.bool false) |>.set 47 v1 |>.set 48 v2 |>.set 49 v3 |>.set 50 (.int .i64 0)) = (FF 77 (gf ((FF 77 d) |>.set 38 (.bool false) |>.set 41 (.bool false) |>.set 42 undef |>.set 43 undef |>.set 44 undef |>.set 45 (.bool false) |>.set 46 (.bool false) |>.set 47 v1 |>.set 48 v2 |>.set 49 v3 |>.set 50 (.int .i64 0)))) from by kernel_rfl]
  exact (f25_l15_at (d := gf ((FF 77 d) |>.set 38 (.bool false) |>.set 41 (.bool false) |>.set 42 undef |>.set 43 undef |>.set 44 undef |>.set 45 (.bool false) |>.set 46 (.bool false) |>.set 47 v1 |>.set 48 v2 |>.set 49 v3 |>.set 50 (.int .i64 0))) (f25_l15_eq call k ag_l7 sg_l7 h_l7 ag_l10 sg_l10 h_l10 k)).trans (by kernel_rfl)
theorem f25_g12_8_eq (call : Handle) (k : Nat) (ag_l7 : GA → GH → M (Value × GH)) (sg_l7 : Value → Value → Value → Value → Value → GH → M (Value × GH)) (h_l7 : f25_l7_P ag_l7 sg_l7) (ag_l10 : GA → GH → M (Value × GH)) (sg_l10 : Value → Value → Value → Value → Value → Value → Value → Value → GH → M (Value × GH)) (h_l10 : f25_l10_P ag_l10 sg_l10) : onGrd true xg (gOps Try.prog 0 call (opsAt (fAt Try.f25 [1,1,1,0,1,0,0,1,1,0,0,1,1,0,0,1,1,0,0,1,0,0])) ((opsAt (fAt Try.f25 [1,1,1,0,1,0,0,1,1,0,0,1,1,0,0,1,1,0,0,1,0,0])).drop 8) ((FF 77 d) |>.set 38 (.bool false) |>.set 41 xg) H ((hSeq (gCode Try.prog call k (fAt Try.f25 [1,1,1,0,1,0,0,1,1,0,0,1,1,0,0,1,1,0,0,1,0,1])) (hSeq (gCode Try.prog call k (fAt Try.f25 [1,1,1,0,1,0,0,1,1,0,0,1,1,0,0,1,1,0,0,1,1])) (hBlock 4 (hSeq (gCode Try.prog call k (fAt Try.f25 [1,1,1,0,1,0,0,1,1,0,0,1,1,0,0,1,1,1])) (hLoop ag_l10 (hBlock 3 (hBlock 2 (hSeq (gCode Try.prog call k (fAt Try.f25 [1,1,1,0,1,0,0,1,1,1])) (hLoop ag_l7 (hBlock 1 (hSeq (gCode Try.prog call k (fAt Try.f25 [1,1,1,1])) (hFin Try.prog Try.f25)))))))))))) .normal)) =
  f25_g12_8 call k sg_l7 sg_l10 xg (d 0) (d 3) (d 7) (d 21) (d 22) (d 23) (d 27) (d 28) (d 29) H := by
  cases xg with
  | bool b => cases b with
    | true => exact onGrd_b.trans (f25_g12_8_true call k ag_l7 sg_l7 h_l7 ag_l10 sg_l10 h_l10)
    | false => exact onGrd_b.trans (f25_g12_8_false call k ag_l7 sg_l7 h_l7 ag_l10 sg_l10 h_l10)
  | _ => kernel_rfl
noncomputable def f25_g12_5 (call : Handle) (k : Nat) (sg_l7 : Value → Value → Value → Value → Value → GH → M (Value × GH)) (sg_l10 : Value → Value → Value → Value → Value → Value → Value → Value → GH → M (Value × GH)) (x38 : Value) (x0 x3 x6 x7 x21 x22 x23 x27 x28 x29 : Value) (H : GH) : M (Value × GH) :=
 onBool (asB x38)
  (some [((.int .i64 1), H)])
  (onV ((oBin Try.prog .eql 3 x6 (.int .i64 0)).filter closed) fun v1 =>
  (f25_g12_8 call k (sg_l7) (sg_l10) v1 x0 x3 x7 x21 x22 x23 x27 x28 x29 H))
theorem f25_g12_5_true (call : Handle) (k : Nat) (ag_l7 : GA → GH → M (Value × GH)) (sg_l7 : Value → Value → Value → Value → Value → GH → M (Value × GH)) (h_l7 : f25_l7_P ag_l7 sg_l7) (ag_l10 : GA → GH → M (Value × GH)) (sg_l10 : Value → Value → Value → Value → Value → Value → Value → Value → GH → M (Value × GH)) (h_l10 : f25_l10_P ag_l10 sg_l10) : gOps Try.prog 0 call (opsAt (fAt Try.f25 [1,1,1,0,1,0,0,1,1,0,0,1,1,0,0,1,1,0,0,1,0,0])) ((opsAt (fAt Try.f25 [1,1,1,0,1,0,0,1,1,0,0,1,1,0,0,1,1,0,0,1,0,0])).drop 5) ((FF 77 d) |>.set 38 (.bool true)) H ((hSeq (gCode Try.prog call k (fAt Try.f25 [1,1,1,0,1,0,0,1,1,0,0,1,1,0,0,1,1,0,0,1,0,1])) (hSeq (gCode Try.prog call k (fAt Try.f25 [1,1,1,0,1,0,0,1,1,0,0,1,1,0,0,1,1,0,0,1,1])) (hBlock 4 (hSeq (gCode Try.prog call k (fAt Try.f25 [1,1,1,0,1,0,0,1,1,0,0,1,1,0,0,1,1,1])) (hLoop ag_l10 (hBlock 3 (hBlock 2 (hSeq (gCode Try.prog call k (fAt Try.f25 [1,1,1,0,1,0,0,1,1,1])) (hLoop ag_l7 (hBlock 1 (hSeq (gCode Try.prog call k (fAt Try.f25 [1,1,1,1])) (hFin Try.prog Try.f25)))))))))))) .normal) =
  some [((.int .i64 1), H)] := by
  rw [s25_19]
  rw [hSeq_n]
  rw [n25_73]
  refine (onBool_tt (by kernel_rfl)).trans ?_
  rw [n25_74]
  rw [n25_75]
  rw [s25_20]
  rw [hSeq_n]
  rw [n25_76]
  rw [hSeq_r, hBlock_r, hSeq_r, hLoop_r, hBlock_r, hBlock_r, hSeq_r, hLoop_r, hBlock_r, hSeq_r]
  kernel_rfl
theorem f25_g12_5_false (call : Handle) (k : Nat) (ag_l7 : GA → GH → M (Value × GH)) (sg_l7 : Value → Value → Value → Value → Value → GH → M (Value × GH)) (h_l7 : f25_l7_P ag_l7 sg_l7) (ag_l10 : GA → GH → M (Value × GH)) (sg_l10 : Value → Value → Value → Value → Value → Value → Value → Value → GH → M (Value × GH)) (h_l10 : f25_l10_P ag_l10 sg_l10) : gOps Try.prog 0 call (opsAt (fAt Try.f25 [1,1,1,0,1,0,0,1,1,0,0,1,1,0,0,1,1,0,0,1,0,0])) ((opsAt (fAt Try.f25 [1,1,1,0,1,0,0,1,1,0,0,1,1,0,0,1,1,0,0,1,0,0])).drop 5) ((FF 77 d) |>.set 38 (.bool false)) H ((hSeq (gCode Try.prog call k (fAt Try.f25 [1,1,1,0,1,0,0,1,1,0,0,1,1,0,0,1,1,0,0,1,0,1])) (hSeq (gCode Try.prog call k (fAt Try.f25 [1,1,1,0,1,0,0,1,1,0,0,1,1,0,0,1,1,0,0,1,1])) (hBlock 4 (hSeq (gCode Try.prog call k (fAt Try.f25 [1,1,1,0,1,0,0,1,1,0,0,1,1,0,0,1,1,1])) (hLoop ag_l10 (hBlock 3 (hBlock 2 (hSeq (gCode Try.prog call k (fAt Try.f25 [1,1,1,0,1,0,0,1,1,1])) (hLoop ag_l7 (hBlock 1 (hSeq (gCode Try.prog call k (fAt Try.f25 [1,1,1,1])) (hFin Try.prog Try.f25)))))))))))) .normal) =
  onV ((oBin Try.prog .eql 3 (d 6) (.int .i64 0)).filter closed) fun v1 =>
  (f25_g12_8 call k (sg_l7) (sg_l10) v1 (d 0) (d 3) (d 7) (d 21) (d 22) (d 23) (d 27) (d 28) (d 29) H) := by
  rw [gOps_split 5 3, s25_21]
  refine onV_c fun v1 => ?_
  rw [show ((FF 77 d) |>.set 38 (.bool false) |>.set 39 (d 6) |>.set 40 v1 |>.set 41 v1) = ((FF 77 (gf ((FF 77 d) |>.set 38 (.bool false) |>.set 39 (d 6) |>.set 40 v1 |>.set 41 v1))) |>.set 38 (.bool false) |>.set 41 v1) from by kernel_rfl]
  exact (f25_g12_8_eq (d := gf ((FF 77 d) |>.set 38 (.bool false) |>.set 39 (d 6) |>.set 40 v1 |>.set 41 v1)) call k ag_l7 sg_l7 h_l7 ag_l10 sg_l10 h_l10).trans (by kernel_rfl)
theorem f25_g12_5_eq (call : Handle) (k : Nat) (ag_l7 : GA → GH → M (Value × GH)) (sg_l7 : Value → Value → Value → Value → Value → GH → M (Value × GH)) (h_l7 : f25_l7_P ag_l7 sg_l7) (ag_l10 : GA → GH → M (Value × GH)) (sg_l10 : Value → Value → Value → Value → Value → Value → Value → Value → GH → M (Value × GH)) (h_l10 : f25_l10_P ag_l10 sg_l10) : onGrd true xg (gOps Try.prog 0 call (opsAt (fAt Try.f25 [1,1,1,0,1,0,0,1,1,0,0,1,1,0,0,1,1,0,0,1,0,0])) ((opsAt (fAt Try.f25 [1,1,1,0,1,0,0,1,1,0,0,1,1,0,0,1,1,0,0,1,0,0])).drop 5) ((FF 77 d) |>.set 38 xg) H ((hSeq (gCode Try.prog call k (fAt Try.f25 [1,1,1,0,1,0,0,1,1,0,0,1,1,0,0,1,1,0,0,1,0,1])) (hSeq (gCode Try.prog call k (fAt Try.f25 [1,1,1,0,1,0,0,1,1,0,0,1,1,0,0,1,1,0,0,1,1])) (hBlock 4 (hSeq (gCode Try.prog call k (fAt Try.f25 [1,1,1,0,1,0,0,1,1,0,0,1,1,0,0,1,1,1])) (hLoop ag_l10 (hBlock 3 (hBlock 2 (hSeq (gCode Try.prog call k (fAt Try.f25 [1,1,1,0,1,0,0,1,1,1])) (hLoop ag_l7 (hBlock 1 (hSeq (gCode Try.prog call k (fAt Try.f25 [1,1,1,1])) (hFin Try.prog Try.f25)))))))))))) .normal)) =
  f25_g12_5 call k sg_l7 sg_l10 xg (d 0) (d 3) (d 6) (d 7) (d 21) (d 22) (d 23) (d 27) (d 28) (d 29) H := by
  cases xg with
  | bool b => cases b with
    | true => exact onGrd_b.trans (f25_g12_5_true call k ag_l7 sg_l7 h_l7 ag_l10 sg_l10 h_l10)
    | false => exact onGrd_b.trans (f25_g12_5_false call k ag_l7 sg_l7 h_l7 ag_l10 sg_l10 h_l10)
  | _ => kernel_rfl
noncomputable def f25_r12 (call : Handle) (k : Nat) (sg_l7 : Value → Value → Value → Value → Value → GH → M (Value × GH)) (sg_l10 : Value → Value → Value → Value → Value → Value → Value → Value → GH → M (Value × GH)) (x0 x3 x6 x7 x21 x22 x23 x27 x28 x29 : Value) (H : GH) : M (Value × GH) :=
  onV (gLoad Try.prog 62 x7 H) fun v1 =>
  onCall 0 call (.func (.func 78) #[] #[]) [x0, v1] H fun v2 H3 =>
  onV ((oUn Try.prog .not v2).filter closed) fun v4 =>
  (f25_g12_5 call k (sg_l7) (sg_l10) v4 x0 x3 x6 x7 x21 x22 x23 x27 x28 x29 H3)
theorem f25_r12_eq (call : Handle) (k : Nat) (ag_l7 : GA → GH → M (Value × GH)) (sg_l7 : Value → Value → Value → Value → Value → GH → M (Value × GH)) (h_l7 : f25_l7_P ag_l7 sg_l7) (ag_l10 : GA → GH → M (Value × GH)) (sg_l10 : Value → Value → Value → Value → Value → Value → Value → Value → GH → M (Value × GH)) (h_l10 : f25_l10_P ag_l10 sg_l10) : gCode Try.prog call k (fAt Try.f25 [1,1,1,0,1,0,0,1,1,0,0,1,1,0,0,1,1,0,0,1,0,0]) (FF 77 d) H (hSeq (gCode Try.prog call k (fAt Try.f25 [1,1,1,0,1,0,0,1,1,0,0,1,1,0,0,1,1,0,0,1,0,1])) (hSeq (gCode Try.prog call k (fAt Try.f25 [1,1,1,0,1,0,0,1,1,0,0,1,1,0,0,1,1,0,0,1,1])) (hBlock 4 (hSeq (gCode Try.prog call k (fAt Try.f25 [1,1,1,0,1,0,0,1,1,0,0,1,1,0,0,1,1,1])) (hLoop ag_l10 (hBlock 3 (hBlock 2 (hSeq (gCode Try.prog call k (fAt Try.f25 [1,1,1,0,1,0,0,1,1,1])) (hLoop ag_l7 (hBlock 1 (hSeq (gCode Try.prog call k (fAt Try.f25 [1,1,1,1])) (hFin Try.prog Try.f25)))))))))))) = f25_r12 call k sg_l7 sg_l10 (d 0) (d 3) (d 6) (d 7) (d 21) (d 22) (d 23) (d 27) (d 28) (d 29) H := by
  unfold f25_r12
  rw [n25_56]
  rw [gOps_split 0 5, s25_14]
  refine onV_c fun v1 => ?_
  refine onCall_c fun v2 H3 => ?_
  refine onV_c fun v4 => ?_
  rw [show ((FF 77 d) |>.set 34 (d 0) |>.set 35 v1 |>.set 36 v2 |>.set 37 v4 |>.set 38 v4) = ((FF 77 (gf ((FF 77 d) |>.set 34 (d 0) |>.set 35 v1 |>.set 36 v2 |>.set 37 v4 |>.set 38 v4))) |>.set 38 v4) from by kernel_rfl]
  exact (f25_g12_5_eq (d := gf ((FF 77 d) |>.set 34 (d 0) |>.set 35 v1 |>.set 36 v2 |>.set 37 v4 |>.set 38 v4)) call k ag_l7 sg_l7 h_l7 ag_l10 sg_l10 h_l10).trans (by kernel_rfl)
noncomputable def f25_l10b (call : Handle) (k : Nat) (sg_l7 : Value → Value → Value → Value → Value → GH → M (Value × GH)) (sg_l10 : Value → Value → Value → Value → Value → Value → Value → Value → GH → M (Value × GH)) (x0 x3 x21 x22 x23 x27 x28 x29 : Value) (H : GH) : M (Value × GH) :=
  onV ((oBin Try.prog .lss 3 x29 x28).filter closed) fun v1 =>
  onBool (asB v1)
  (onV (oIndexAddr Try.prog 59 x27 x29) fun v2 =>
  onV (gLoad Try.prog 62 v2 H) fun v3 =>
  onH (gStore Try.prog 62 (.pointer (some ⟨H.n, 0, none⟩)) v3 (GH.push H (.row [(.int .u8 0), (.bool false), (.slice none 0 0), (.slice none 0 0)] 62 false))) fun H4 =>
  (f25_r12 call k (sg_l7) (sg_l10) x0 x3 x29 (.pointer (some ⟨H.n, 0, none⟩)) x21 x22 x23 x27 x28 x29 H4))
  (onV ((oBin Try.prog .add 3 x23 (.int .i64 1)).filter closed) fun v5 =>
  (sg_l7 x0 x3 x21 x22 v5 H))
theorem f25_l10b_eq (call : Handle) (k : Nat) (ag_l7 : GA → GH → M (Value × GH)) (sg_l7 : Value → Value → Value → Value → Value → GH → M (Value × GH)) (h_l7 : f25_l7_P ag_l7 sg_l7) (ag_l10 : GA → GH → M (Value × GH)) (sg_l10 : Value → Value → Value → Value → Value → Value → Value → Value → GH → M (Value × GH)) (h_l10 : f25_l10_P ag_l10 sg_l10) : gCode Try.prog call k (fAt Try.f25 [1,1,1,0,1,0,0,1,1,0,0,1,1,0,0]) (FF 77 d) H (hLoop ag_l10 (hBlock 3 (hBlock 2 (hSeq (gCode Try.prog call k (fAt Try.f25 [1,1,1,0,1,0,0,1,1,1])) (hLoop ag_l7 (hBlock 1 (hSeq (gCode Try.prog call k (fAt Try.f25 [1,1,1,1])) (hFin Try.prog Try.f25)))))))) = f25_l10b call k sg_l7 sg_l10 (d 0) (d 3) (d 21) (d 22) (d 23) (d 27) (d 28) (d 29) H := by
  unfold f25_l10b
  rw [n25_38]
  rw [n25_39]
  rw [s25_10]
  refine onV_c fun v1 => ?_
  rw [hSeq_n]
  rw [n25_40]
  rw [n25_41]
  refine onBool_cc (by kernel_rfl) ?_ ?_
  · rw [n25_42]
    rw [hSeq_n]
    rw [n25_43]
    rw [n25_44]
    rw [n25_45]
    rw [n25_46]
    rw [s25_11]
    refine onV_c fun v2 => ?_
    refine onV_c fun v3 => ?_
    refine onH_c fun H4 => ?_
    rw [hSeq_n]
    rw [n25_47]
    rw [n25_48]
    rw [show ((FF 77 d) |>.set 30 v1 |>.set 31 (d 29) |>.set 32 v2 |>.set 33 v3 |>.set 7 (.pointer (some ⟨H.n, 0, none⟩)) |>.set 6 (d 29)) = (FF 77 (gf ((FF 77 d) |>.set 30 v1 |>.set 31 (d 29) |>.set 32 v2 |>.set 33 v3 |>.set 7 (.pointer (some ⟨H.n, 0, none⟩)) |>.set 6 (d 29)))) from by kernel_rfl]
    exact (f25_r12_eq (d := gf ((FF 77 d) |>.set 30 v1 |>.set 31 (d 29) |>.set 32 v2 |>.set 33 v3 |>.set 7 (.pointer (some ⟨H.n, 0, none⟩)) |>.set 6 (d 29))) call k ag_l7 sg_l7 h_l7 ag_l10 sg_l10 h_l10).trans (by kernel_rfl)
  · rw [n25_49]
    rw [hSeq_e, hLoop_e, hBlock_hit]
    rw [hBlock_n]
    rw [hSeq_n]
    rw [n25_50]
    rw [s25_12]
    refine onV_c fun v5 => ?_
    rw [hLoop_n]
    rw [show ((FF 77 d) |>.set 30 v1 |>.set 62 v5 |>.set 23 v5) = (FF 77 (gf ((FF 77 d) |>.set 30 v1 |>.set 62 v5 |>.set 23 v5))) from by kernel_rfl]
    exact (f25_l7_at (d := gf ((FF 77 d) |>.set 30 v1 |>.set 62 v5 |>.set 23 v5)) h_l7).trans (by kernel_rfl)
noncomputable def f25_l10 (call : Handle) (k : Nat) (sg_l7 : Value → Value → Value → Value → Value → GH → M (Value × GH)) : Nat → Value → Value → Value → Value → Value → Value → Value → Value → GH → M (Value × GH)
  | 0, _, _, _, _, _, _, _, _, _ => none
  | r + 1, x0, x3, x21, x22, x23, x27, x28, x29, H => f25_l10b call k sg_l7 (f25_l10 call k sg_l7 r) x0 x3 x21 x22 x23 x27 x28 x29 H
theorem f25_l10_eq (call : Handle) (k : Nat) (ag_l7 : GA → GH → M (Value × GH)) (sg_l7 : Value → Value → Value → Value → Value → GH → M (Value × GH)) (h_l7 : f25_l7_P ag_l7 sg_l7) : ∀ (r : Nat), f25_l10_P (gLoop (gCode Try.prog call k (fAt Try.f25 [1,1,1,0,1,0,0,1,1,0,0,1,1,0,0])) (hBlock 3 (hBlock 2 (hSeq (gCode Try.prog call k (fAt Try.f25 [1,1,1,0,1,0,0,1,1,1])) (hLoop ag_l7 (hBlock 1 (hSeq (gCode Try.prog call k (fAt Try.f25 [1,1,1,1])) (hFin Try.prog Try.f25))))))) r) (f25_l10 call k sg_l7 r) := by
  intro r
  induction r with
  | zero => unfold f25_l10_P; intros; rfl
  | succ r ih => unfold f25_l10_P; intros; exact f25_l10b_eq call k ag_l7 sg_l7 h_l7 _ _ ih
noncomputable def f25_l7b (call : Handle) (k : Nat) (sg_l7 : Value → Value → Value → Value → Value → GH → M (Value × GH)) (x0 x3 x21 x22 x23 : Value) (H : GH) : M (Value × GH) :=
  onV ((oBin Try.prog .lss 3 x23 x22).filter closed) fun v1 =>
  onBool (asB v1)
  (onV (oIndexAddr Try.prog 58 x21 x23) fun v2 =>
  onV (gLoad Try.prog 59 v2 H) fun v3 =>
  onV (oLen Try.prog 59 v3) fun v4 =>
  (f25_l10 call k (sg_l7) k x0 x3 x21 x22 x23 v3 v4 (.int .i64 0) H))
  ((f25_r21 call k x0 x3 H))
theorem f25_l7b_eq (call : Handle) (k : Nat) (ag_l7 : GA → GH → M (Value × GH)) (sg_l7 : Value → Value → Value → Value → Value → GH → M (Value × GH)) (h_l7 : f25_l7_P ag_l7 sg_l7) : gCode Try.prog call k (fAt Try.f25 [1,1,1,0,1,0,0]) (FF 77 d) H (hLoop ag_l7 (hBlock 1 (hSeq (gCode Try.prog call k (fAt Try.f25 [1,1,1,1])) (hFin Try.prog Try.f25)))) = f25_l7b call k sg_l7 (d 0) (d 3) (d 21) (d 22) (d 23) H := by
  unfold f25_l7b
  rw [n25_24]
  rw [n25_25]
  rw [s25_7]
  refine onV_c fun v1 => ?_
  rw [hSeq_n]
  rw [n25_26]
  rw [n25_27]
  refine onBool_cc (by kernel_rfl) ?_ ?_
  · rw [n25_28]
    rw [hSeq_n]
    rw [n25_29]
    rw [n25_30]
    rw [n25_31]
    rw [n25_32]
    rw [s25_8]
    refine onV_c fun v2 => ?_
    refine onV_c fun v3 => ?_
    rw [hSeq_n]
    rw [n25_33]
    rw [n25_34]
    rw [s25_9]
    refine onV_c fun v4 => ?_
    rw [hSeq_n]
    rw [n25_35]
    rw [n25_36]
    rw [show ((FF 77 d) |>.set 24 v1 |>.set 25 v2 |>.set 26 v3 |>.set 5 v3 |>.set 27 v3 |>.set 28 v4 |>.set 29 (.int .i64 0)) = (FF 77 (gf ((FF 77 d) |>.set 24 v1 |>.set 25 v2 |>.set 26 v3 |>.set 5 v3 |>.set 27 v3 |>.set 28 v4 |>.set 29 (.int .i64 0)))) from by kernel_rfl]
    exact (f25_l10_at (d := gf ((FF 77 d) |>.set 24 v1 |>.set 25 v2 |>.set 26 v3 |>.set 5 v3 |>.set 27 v3 |>.set 28 v4 |>.set 29 (.int .i64 0))) (f25_l10_eq call k ag_l7 sg_l7 h_l7 k)).trans (by kernel_rfl)
  · rw [n25_37]
    rw [hSeq_e, hLoop_e, hBlock_hit]
    rw [hSeq_n]
    rw [show ((FF 77 d) |>.set 24 v1) = (FF 77 (gf ((FF 77 d) |>.set 24 v1))) from by kernel_rfl]
    exact (f25_r21_eq (d := gf ((FF 77 d) |>.set 24 v1)) call k).trans (by kernel_rfl)
noncomputable def f25_l7 (call : Handle) (k : Nat) : Nat → Value → Value → Value → Value → Value → GH → M (Value × GH)
  | 0, _, _, _, _, _, _ => none
  | r + 1, x0, x3, x21, x22, x23, H => f25_l7b call k (f25_l7 call k r) x0 x3 x21 x22 x23 H
theorem f25_l7_eq (call : Handle) (k : Nat) : ∀ (r : Nat), f25_l7_P (gLoop (gCode Try.prog call k (fAt Try.f25 [1,1,1,0,1,0,0])) (hBlock 1 (hSeq (gCode Try.prog call k (fAt Try.f25 [1,1,1,1])) (hFin Try.prog Try.f25))) r) (f25_l7 call k r) := by
  intro r
  induction r with
  | zero => unfold f25_l7_P; intros; rfl
  | succ r ih => unfold f25_l7_P; intros; exact f25_l7b_eq call k _ _ ih
noncomputable def f25_sh (call : Handle) (k : Nat) (p0 : Value) (H : GH) : M (Value × GH) :=
  onV (oLen Try.prog 58 p0) fun v1 =>
  onV ((oBin Try.prog .neq 3 v1 (.int .i64 6)).filter closed) fun v2 =>
  onBool (asB v2)
  (some [((.int .i64 5), H)])
  (onCall 0 call (.func (.func 73) #[] #[]) [p0] H fun v3 H4 =>
  onV ((oBin Try.prog .gtr 3 v3 (.int .i64 2048)).filter closed) fun v5 =>
  onBool (asB v5)
  (some [((.int .i64 3), H4)])
  (onV (oLen Try.prog 58 p0) fun v6 =>
  (f25_l7 call k k p0 (.map (some H4.n)) p0 v6 (.int .i64 0) (GH.push H4 (.map [] 0)))))
theorem f25_run (call : Handle) (k : Nat) (p0 : Value) (H : GH) : gCode Try.prog call k (fAt Try.f25 []) ((FF 77 fun _ => undef) |>.set 0 p0) H (hFin Try.prog Try.f25) = f25_sh call k p0 H := by
  unfold f25_sh
  rw [n25_0]
  rw [n25_1]
  rw [s25_0]
  rw [hSeq_n]
  rw [n25_2]
  rw [n25_3]
  rw [n25_4]
  rw [n25_5]
  rw [s25_1]
  refine onV_c fun v1 => ?_
  refine onV_c fun v2 => ?_
  rw [hSeq_n]
  rw [n25_6]
  refine onBool_cc (by kernel_rfl) ?_ ?_
  · rw [n25_7]
    rw [n25_8]
    rw [s25_2]
    rw [hSeq_n]
    rw [n25_9]
    rw [hBlock_r, hSeq_r]
    kernel_rfl
  · rw [n25_10]
    rw [n25_11]
    rw [s25_3]
    refine onCall_c fun v3 H4 => ?_
    refine onV_c fun v5 => ?_
    rw [hSeq_n]
    rw [n25_12]
    refine onBool_cc (by kernel_rfl) ?_ ?_
    · rw [n25_13]
      rw [n25_14]
      rw [s25_4]
      rw [hSeq_n]
      rw [n25_15]
      rw [hBlock_r, hSeq_r]
      kernel_rfl
    · rw [n25_16]
      rw [hBlock_n]
      rw [hSeq_n]
      rw [n25_17]
      rw [n25_18]
      rw [s25_5]
      rw [hSeq_n]
      rw [n25_19]
      rw [n25_20]
      rw [n25_21]
      rw [s25_6]
      refine onV_c fun v6 => ?_
      rw [hSeq_n]
      rw [n25_22]
      rw [n25_23]
      rw [show ((FF 77 fun _ => undef) |>.set 0 p0 |>.set 2 (.int .i64 0) |>.set 13 p0 |>.set 14 v1 |>.set 15 v2 |>.set 12 v2 |>.set 17 p0 |>.set 18 v3 |>.set 19 v5 |>.set 16 v5 |>.set 20 (.map (some H4.n)) |>.set 3 (.map (some H4.n)) |>.set 21 p0 |>.set 22 v6 |>.set 23 (.int .i64 0)) = (FF 77 (gf ((FF 77 fun _ => undef) |>.set 0 p0 |>.set 2 (.int .i64 0) |>.set 13 p0 |>.set 14 v1 |>.set 15 v2 |>.set 12 v2 |>.set 17 p0 |>.set 18 v3 |>.set 19 v5 |>.set 16 v5 |>.set 20 (.map (some H4.n)) |>.set 3 (.map (some H4.n)) |>.set 21 p0 |>.set 22 v6 |>.set 23 (.int .i64 0)))) from by kernel_rfl]
      exact (f25_l7_at (d := gf ((FF 77 fun _ => undef) |>.set 0 p0 |>.set 2 (.int .i64 0) |>.set 13 p0 |>.set 14 v1 |>.set 15 v2 |>.set 12 v2 |>.set 17 p0 |>.set 18 v3 |>.set 19 v5 |>.set 16 v5 |>.set 20 (.map (some H4.n)) |>.set 3 (.map (some H4.n)) |>.set 21 p0 |>.set 22 v6 |>.set 23 (.int .i64 0))) (f25_l7_eq call k k)).trans (by kernel_rfl)
theorem f25_eq (call : Handle) (k : Nat) (p0 : Value) (H : GH) : gFunc Try.prog call k Try.f25 [p0] H = f25_sh call k p0 H :=
  Eq.trans (by kernel_rfl) (f25_run call k p0 H)
end
end Go.Proofs.Ythicilkmjamefaa
