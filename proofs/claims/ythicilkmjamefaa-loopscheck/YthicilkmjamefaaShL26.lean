/- PRINTED by sh.py: shallow forms of functions of the program, each proved equal to what the ghost machine makes of its code. -/
import Derived.Test.YthicilkmjamefaaGkTop
import Derived.Test.YthicilkmjamefaaProg
namespace Go.Proofs.Ythicilkmjamefaa
open Go.Gh
set_option linter.unusedVariables false
set_option linter.unusedSimpArgs false
set_option maxRecDepth 100000
section
variable {β : Type} {call : Handle} {k : Nat} {a : GA} {K : Kont β} {K' : GA → GH → M β}
variable {d : Nat → Value} {xg : Value}
variable {p0 p1 p2 : Value}
variable {v1 v2 v3 v4 v5 v6 v8 v10 : Value}
variable {H H2 H4 H7 H9 H11 : GH}
theorem n26_0 : gCode Try.prog call k (fAt Try.f26 []) a H K = gCode Try.prog call k (fAt Try.f26 [0]) a H (hSeq (gCode Try.prog call k (fAt Try.f26 [1])) K) := at_seq (by kernel_rfl)
theorem n26_1 : gCode Try.prog call k (fAt Try.f26 [0]) a H K = gOps Try.prog 0 call (opsAt (fAt Try.f26 [0])) ((opsAt (fAt Try.f26 [0])).drop 0) a H (K .normal) := at_region (by kernel_rfl)
theorem n26_2 : gCode Try.prog call k (fAt Try.f26 [1]) a H K = gCode Try.prog call k (fAt Try.f26 [1,0]) a H (hSeq (gCode Try.prog call k (fAt Try.f26 [1,1])) K) := at_seq (by kernel_rfl)
theorem n26_3 : gCode Try.prog call k (fAt Try.f26 [1,0]) a H K = gCode Try.prog call k (fAt Try.f26 [1,0,0]) a H (hSeq (gCode Try.prog call k (fAt Try.f26 [1,0,1])) K) := at_seq (by kernel_rfl)
theorem n26_4 : gCode Try.prog call k (fAt Try.f26 [1,0,0]) a H K = gOps Try.prog 0 call (opsAt (fAt Try.f26 [1,0,0])) ((opsAt (fAt Try.f26 [1,0,0])).drop 0) a H (K .normal) := at_region (by kernel_rfl)
theorem n26_5 : gCode Try.prog call k (fAt Try.f26 [1,0,1]) a H K = gCode Try.prog call k (fAt Try.f26 [1,0,1,0]) a H (hSeq (gCode Try.prog call k (fAt Try.f26 [1,0,1,1])) K) := at_seq (by kernel_rfl)
theorem n26_6 : gCode Try.prog call k (fAt Try.f26 [1,0,1,0]) a H K = gOps Try.prog 0 call (opsAt (fAt Try.f26 [1,0,1,0])) ((opsAt (fAt Try.f26 [1,0,1,0])).drop 0) a H (K .normal) := at_region (by kernel_rfl)
theorem n26_7 : gCode Try.prog call k (fAt Try.f26 [1,0,1,1]) a H K = onBool (asB (GA.eval a (.tmp 19))) (gCode Try.prog call k (fAt Try.f26 [1,0,1,1,0]) a H K) (gCode Try.prog call k (fAt Try.f26 [1,0,1,1,1]) a H K) := at_cond (by kernel_rfl)
theorem n26_8 : gCode Try.prog call k (fAt Try.f26 [1,0,1,1,0]) a H K = gCode Try.prog call k (fAt Try.f26 [1,0,1,1,0,0]) a H (hSeq (gCode Try.prog call k (fAt Try.f26 [1,0,1,1,0,1])) K) := at_seq (by kernel_rfl)
theorem n26_9 : gCode Try.prog call k (fAt Try.f26 [1,0,1,1,0,0]) a H K = gOps Try.prog 0 call (opsAt (fAt Try.f26 [1,0,1,1,0,0])) ((opsAt (fAt Try.f26 [1,0,1,1,0,0])).drop 0) a H (K .normal) := at_region (by kernel_rfl)
theorem n26_10 : gCode Try.prog call k (fAt Try.f26 [1,0,1,1,0,1]) a H K = K .ret a H := at_ret (by kernel_rfl)
theorem n26_11 : gCode Try.prog call k (fAt Try.f26 [1,0,1,1,1]) a H K = K .normal a H := at_skip (by kernel_rfl)
theorem n26_12 : gCode Try.prog call k (fAt Try.f26 [1,1]) a H K = gCode Try.prog call k (fAt Try.f26 [1,1,0]) a H (hSeq (gCode Try.prog call k (fAt Try.f26 [1,1,1])) K) := at_seq (by kernel_rfl)
theorem n26_13 : gCode Try.prog call k (fAt Try.f26 [1,1,0]) a H K = gCode Try.prog call k (fAt Try.f26 [1,1,0,0]) a H (hSeq (gCode Try.prog call k (fAt Try.f26 [1,1,0,1])) K) := at_seq (by kernel_rfl)
theorem n26_14 : gCode Try.prog call k (fAt Try.f26 [1,1,0,0]) a H K = gOps Try.prog 0 call (opsAt (fAt Try.f26 [1,1,0,0])) ((opsAt (fAt Try.f26 [1,1,0,0])).drop 0) a H (K .normal) := at_region (by kernel_rfl)
theorem n26_15 : gCode Try.prog call k (fAt Try.f26 [1,1,0,1]) a H K = onBool (asB (GA.eval a (.tmp 26))) (gCode Try.prog call k (fAt Try.f26 [1,1,0,1,0]) a H K) (gCode Try.prog call k (fAt Try.f26 [1,1,0,1,1]) a H K) := at_cond (by kernel_rfl)
theorem n26_16 : gCode Try.prog call k (fAt Try.f26 [1,1,0,1,0]) a H K = gCode Try.prog call k (fAt Try.f26 [1,1,0,1,0,0]) a H (hSeq (gCode Try.prog call k (fAt Try.f26 [1,1,0,1,0,1])) K) := at_seq (by kernel_rfl)
theorem n26_17 : gCode Try.prog call k (fAt Try.f26 [1,1,0,1,0,0]) a H K = gOps Try.prog 0 call (opsAt (fAt Try.f26 [1,1,0,1,0,0])) ((opsAt (fAt Try.f26 [1,1,0,1,0,0])).drop 0) a H (K .normal) := at_region (by kernel_rfl)
theorem n26_18 : gCode Try.prog call k (fAt Try.f26 [1,1,0,1,0,1]) a H K = K .ret a H := at_ret (by kernel_rfl)
theorem n26_19 : gCode Try.prog call k (fAt Try.f26 [1,1,0,1,1]) a H K = K .normal a H := at_skip (by kernel_rfl)
theorem n26_20 : gCode Try.prog call k (fAt Try.f26 [1,1,1]) a H K = gCode Try.prog call k (fAt Try.f26 [1,1,1,0]) a H (hSeq (gCode Try.prog call k (fAt Try.f26 [1,1,1,1])) K) := at_seq (by kernel_rfl)
theorem n26_21 : gCode Try.prog call k (fAt Try.f26 [1,1,1,0]) a H K = gOps Try.prog 0 call (opsAt (fAt Try.f26 [1,1,1,0])) ((opsAt (fAt Try.f26 [1,1,1,0])).drop 0) a H (K .normal) := at_region (by kernel_rfl)
theorem n26_22 : gCode Try.prog call k (fAt Try.f26 [1,1,1,1]) a H K = gCode Try.prog call k (fAt Try.f26 [1,1,1,1,0]) a H (hSeq (gCode Try.prog call k (fAt Try.f26 [1,1,1,1,1])) K) := at_seq (by kernel_rfl)
theorem n26_23 : gCode Try.prog call k (fAt Try.f26 [1,1,1,1,0]) a H K = gCode Try.prog call k (fAt Try.f26 [1,1,1,1,0,0]) a H (hSeq (gCode Try.prog call k (fAt Try.f26 [1,1,1,1,0,1])) K) := at_seq (by kernel_rfl)
theorem n26_24 : gCode Try.prog call k (fAt Try.f26 [1,1,1,1,0,0]) a H K = gOps Try.prog 0 call (opsAt (fAt Try.f26 [1,1,1,1,0,0])) ((opsAt (fAt Try.f26 [1,1,1,1,0,0])).drop 0) a H (K .normal) := at_region (by kernel_rfl)
theorem n26_25 : gCode Try.prog call k (fAt Try.f26 [1,1,1,1,0,1]) a H K = gCode Try.prog call k (fAt Try.f26 [1,1,1,1,0,1,0]) a H (hBlock 0 K) := at_block (by kernel_rfl)
theorem n26_26 : gCode Try.prog call k (fAt Try.f26 [1,1,1,1,0,1,0]) a H K = gLoop (gCode Try.prog call k (fAt Try.f26 [1,1,1,1,0,1,0,0])) K k a H := at_loop (by kernel_rfl)
theorem n26_27 : gCode Try.prog call k (fAt Try.f26 [1,1,1,1,0,1,0,0]) a H K = gCode Try.prog call k (fAt Try.f26 [1,1,1,1,0,1,0,0,0]) a H (hSeq (gCode Try.prog call k (fAt Try.f26 [1,1,1,1,0,1,0,0,1])) K) := at_seq (by kernel_rfl)
theorem n26_28 : gCode Try.prog call k (fAt Try.f26 [1,1,1,1,0,1,0,0,0]) a H K = gOps Try.prog 0 call (opsAt (fAt Try.f26 [1,1,1,1,0,1,0,0,0])) ((opsAt (fAt Try.f26 [1,1,1,1,0,1,0,0,0])).drop 0) a H (K .normal) := at_region (by kernel_rfl)
theorem n26_29 : gCode Try.prog call k (fAt Try.f26 [1,1,1,1,0,1,0,0,1]) a H K = gCode Try.prog call k (fAt Try.f26 [1,1,1,1,0,1,0,0,1,0]) a H (hSeq (gCode Try.prog call k (fAt Try.f26 [1,1,1,1,0,1,0,0,1,1])) K) := at_seq (by kernel_rfl)
theorem n26_30 : gCode Try.prog call k (fAt Try.f26 [1,1,1,1,0,1,0,0,1,0]) a H K = onBool (asB (GA.eval a (.tmp 33))) (gCode Try.prog call k (fAt Try.f26 [1,1,1,1,0,1,0,0,1,0,0]) a H K) (gCode Try.prog call k (fAt Try.f26 [1,1,1,1,0,1,0,0,1,0,1]) a H K) := at_cond (by kernel_rfl)
theorem n26_31 : gCode Try.prog call k (fAt Try.f26 [1,1,1,1,0,1,0,0,1,0,0]) a H K = K .normal a H := at_skip (by kernel_rfl)
theorem n26_32 : gCode Try.prog call k (fAt Try.f26 [1,1,1,1,0,1,0,0,1,1]) a H K = gCode Try.prog call k (fAt Try.f26 [1,1,1,1,0,1,0,0,1,1,0]) a H (hSeq (gCode Try.prog call k (fAt Try.f26 [1,1,1,1,0,1,0,0,1,1,1])) K) := at_seq (by kernel_rfl)
theorem n26_33 : gCode Try.prog call k (fAt Try.f26 [1,1,1,1,0,1,0,0,1,1,0]) a H K = gCode Try.prog call k (fAt Try.f26 [1,1,1,1,0,1,0,0,1,1,0,0]) a H (hBlock 1 K) := at_block (by kernel_rfl)
theorem n26_34 : gCode Try.prog call k (fAt Try.f26 [1,1,1,1,0,1,0,0,1,1,0,0]) a H K = gCode Try.prog call k (fAt Try.f26 [1,1,1,1,0,1,0,0,1,1,0,0,0]) a H (hSeq (gCode Try.prog call k (fAt Try.f26 [1,1,1,1,0,1,0,0,1,1,0,0,1])) K) := at_seq (by kernel_rfl)
theorem n26_35 : gCode Try.prog call k (fAt Try.f26 [1,1,1,1,0,1,0,0,1,1,0,0,0]) a H K = gOps Try.prog 0 call (opsAt (fAt Try.f26 [1,1,1,1,0,1,0,0,1,1,0,0,0])) ((opsAt (fAt Try.f26 [1,1,1,1,0,1,0,0,1,1,0,0,0])).drop 0) a H (K .normal) := at_region (by kernel_rfl)
theorem n26_36 : gCode Try.prog call k (fAt Try.f26 [1,1,1,1,0,1,0,0,1,1,0,0,1]) a H K = gCode Try.prog call k (fAt Try.f26 [1,1,1,1,0,1,0,0,1,1,0,0,1,0]) a H (hSeq (gCode Try.prog call k (fAt Try.f26 [1,1,1,1,0,1,0,0,1,1,0,0,1,1])) K) := at_seq (by kernel_rfl)
theorem n26_37 : gCode Try.prog call k (fAt Try.f26 [1,1,1,1,0,1,0,0,1,1,0,0,1,0]) a H K = gOps Try.prog 0 call (opsAt (fAt Try.f26 [1,1,1,1,0,1,0,0,1,1,0,0,1,0])) ((opsAt (fAt Try.f26 [1,1,1,1,0,1,0,0,1,1,0,0,1,0])).drop 0) a H (K .normal) := at_region (by kernel_rfl)
theorem n26_38 : gCode Try.prog call k (fAt Try.f26 [1,1,1,1,0,1,0,0,1,1,0,0,1,1]) a H K = gCode Try.prog call k (fAt Try.f26 [1,1,1,1,0,1,0,0,1,1,0,0,1,1,0]) a H (hSeq (gCode Try.prog call k (fAt Try.f26 [1,1,1,1,0,1,0,0,1,1,0,0,1,1,1])) K) := at_seq (by kernel_rfl)
theorem n26_39 : gCode Try.prog call k (fAt Try.f26 [1,1,1,1,0,1,0,0,1,1,0,0,1,1,0]) a H K = gOps Try.prog 0 call (opsAt (fAt Try.f26 [1,1,1,1,0,1,0,0,1,1,0,0,1,1,0])) ((opsAt (fAt Try.f26 [1,1,1,1,0,1,0,0,1,1,0,0,1,1,0])).drop 0) a H (K .normal) := at_region (by kernel_rfl)
theorem n26_40 : gCode Try.prog call k (fAt Try.f26 [1,1,1,1,0,1,0,0,1,1,0,0,1,1,1]) a H K = gCode Try.prog call k (fAt Try.f26 [1,1,1,1,0,1,0,0,1,1,0,0,1,1,1,0]) a H (hBlock 2 K) := at_block (by kernel_rfl)
theorem n26_41 : gCode Try.prog call k (fAt Try.f26 [1,1,1,1,0,1,0,0,1,1,0,0,1,1,1,0]) a H K = gLoop (gCode Try.prog call k (fAt Try.f26 [1,1,1,1,0,1,0,0,1,1,0,0,1,1,1,0,0])) K k a H := at_loop (by kernel_rfl)
theorem n26_42 : gCode Try.prog call k (fAt Try.f26 [1,1,1,1,0,1,0,0,1,0,1]) a H K = K (.exit 0) a H := at_exit (by kernel_rfl)
theorem n26_43 : gCode Try.prog call k (fAt Try.f26 [1,1,1,1,0,1,0,0,1,1,0,0,1,1,1,0,0]) a H K = gCode Try.prog call k (fAt Try.f26 [1,1,1,1,0,1,0,0,1,1,0,0,1,1,1,0,0,0]) a H (hSeq (gCode Try.prog call k (fAt Try.f26 [1,1,1,1,0,1,0,0,1,1,0,0,1,1,1,0,0,1])) K) := at_seq (by kernel_rfl)
theorem n26_44 : gCode Try.prog call k (fAt Try.f26 [1,1,1,1,0,1,0,0,1,1,0,0,1,1,1,0,0,0]) a H K = gOps Try.prog 0 call (opsAt (fAt Try.f26 [1,1,1,1,0,1,0,0,1,1,0,0,1,1,1,0,0,0])) ((opsAt (fAt Try.f26 [1,1,1,1,0,1,0,0,1,1,0,0,1,1,1,0,0,0])).drop 0) a H (K .normal) := at_region (by kernel_rfl)
theorem n26_45 : gCode Try.prog call k (fAt Try.f26 [1,1,1,1,0,1,0,0,1,1,0,0,1,1,1,0,0,1]) a H K = gCode Try.prog call k (fAt Try.f26 [1,1,1,1,0,1,0,0,1,1,0,0,1,1,1,0,0,1,0]) a H (hSeq (gCode Try.prog call k (fAt Try.f26 [1,1,1,1,0,1,0,0,1,1,0,0,1,1,1,0,0,1,1])) K) := at_seq (by kernel_rfl)
theorem n26_46 : gCode Try.prog call k (fAt Try.f26 [1,1,1,1,0,1,0,0,1,1,0,0,1,1,1,0,0,1,0]) a H K = onBool (asB (GA.eval a (.tmp 47))) (gCode Try.prog call k (fAt Try.f26 [1,1,1,1,0,1,0,0,1,1,0,0,1,1,1,0,0,1,0,0]) a H K) (gCode Try.prog call k (fAt Try.f26 [1,1,1,1,0,1,0,0,1,1,0,0,1,1,1,0,0,1,0,1]) a H K) := at_cond (by kernel_rfl)
theorem n26_47 : gCode Try.prog call k (fAt Try.f26 [1,1,1,1,0,1,0,0,1,1,0,0,1,1,1,0,0,1,0,0]) a H K = K .normal a H := at_skip (by kernel_rfl)
theorem n26_48 : gCode Try.prog call k (fAt Try.f26 [1,1,1,1,0,1,0,0,1,1,0,0,1,1,1,0,0,1,1]) a H K = gCode Try.prog call k (fAt Try.f26 [1,1,1,1,0,1,0,0,1,1,0,0,1,1,1,0,0,1,1,0]) a H (hSeq (gCode Try.prog call k (fAt Try.f26 [1,1,1,1,0,1,0,0,1,1,0,0,1,1,1,0,0,1,1,1])) K) := at_seq (by kernel_rfl)
theorem n26_49 : gCode Try.prog call k (fAt Try.f26 [1,1,1,1,0,1,0,0,1,1,0,0,1,1,1,0,0,1,1,0]) a H K = gCode Try.prog call k (fAt Try.f26 [1,1,1,1,0,1,0,0,1,1,0,0,1,1,1,0,0,1,1,0,0]) a H (hBlock 3 K) := at_block (by kernel_rfl)
theorem n26_50 : gCode Try.prog call k (fAt Try.f26 [1,1,1,1,0,1,0,0,1,1,0,0,1,1,1,0,0,1,1,0,0]) a H K = gCode Try.prog call k (fAt Try.f26 [1,1,1,1,0,1,0,0,1,1,0,0,1,1,1,0,0,1,1,0,0,0]) a H (hSeq (gCode Try.prog call k (fAt Try.f26 [1,1,1,1,0,1,0,0,1,1,0,0,1,1,1,0,0,1,1,0,0,1])) K) := at_seq (by kernel_rfl)
theorem n26_51 : gCode Try.prog call k (fAt Try.f26 [1,1,1,1,0,1,0,0,1,1,0,0,1,1,1,0,0,1,1,0,0,0]) a H K = gOps Try.prog 0 call (opsAt (fAt Try.f26 [1,1,1,1,0,1,0,0,1,1,0,0,1,1,1,0,0,1,1,0,0,0])) ((opsAt (fAt Try.f26 [1,1,1,1,0,1,0,0,1,1,0,0,1,1,1,0,0,1,1,0,0,0])).drop 0) a H (K .normal) := at_region (by kernel_rfl)
theorem n26_52 : gCode Try.prog call k (fAt Try.f26 [1,1,1,1,0,1,0,0,1,1,0,0,1,1,1,0,0,1,0,1]) a H K = K (.exit 2) a H := at_exit (by kernel_rfl)
theorem n26_53 : gCode Try.prog call k (fAt Try.f26 [1,1,1,1,0,1,0,0,1,1,1]) a H K = gOps Try.prog 0 call (opsAt (fAt Try.f26 [1,1,1,1,0,1,0,0,1,1,1])) ((opsAt (fAt Try.f26 [1,1,1,1,0,1,0,0,1,1,1])).drop 0) a H (K .normal) := at_region (by kernel_rfl)
theorem n26_54 : gCode Try.prog call k (fAt Try.f26 [1,1,1,1,1]) a H K = gCode Try.prog call k (fAt Try.f26 [1,1,1,1,1,0]) a H (hSeq (gCode Try.prog call k (fAt Try.f26 [1,1,1,1,1,1])) K) := at_seq (by kernel_rfl)
theorem n26_55 : gCode Try.prog call k (fAt Try.f26 [1,1,1,1,1,0]) a H K = gOps Try.prog 2 call (opsAt (fAt Try.f26 [1,1,1,1,1,0])) ((opsAt (fAt Try.f26 [1,1,1,1,1,0])).drop 0) a H (K .normal) := at_region (by kernel_rfl)
theorem n26_56 : gCode Try.prog call k (fAt Try.f26 [1,1,1,1,1,1]) a H K = gCode Try.prog call k (fAt Try.f26 [1,1,1,1,1,1,0]) a H (hSeq (gCode Try.prog call k (fAt Try.f26 [1,1,1,1,1,1,1])) K) := at_seq (by kernel_rfl)
theorem n26_57 : gCode Try.prog call k (fAt Try.f26 [1,1,1,1,1,1,0]) a H K = gCode Try.prog call k (fAt Try.f26 [1,1,1,1,1,1,0,0]) a H (hSeq (gCode Try.prog call k (fAt Try.f26 [1,1,1,1,1,1,0,1])) K) := at_seq (by kernel_rfl)
theorem n26_58 : gCode Try.prog call k (fAt Try.f26 [1,1,1,1,0,1,0,0,1,1,0,0,1,1,1,0,0,1,1,0,0,1]) a H K = gOps Try.prog 2 call (opsAt (fAt Try.f26 [1,1,1,1,0,1,0,0,1,1,0,0,1,1,1,0,0,1,1,0,0,1])) ((opsAt (fAt Try.f26 [1,1,1,1,0,1,0,0,1,1,0,0,1,1,1,0,0,1,1,0,0,1])).drop 0) a H (K .normal) := at_region (by kernel_rfl)
theorem n26_59 : gCode Try.prog call k (fAt Try.f26 [1,1,1,1,0,1,0,0,1,1,0,0,1,1,1,0,0,1,1,1]) a H K = gOps Try.prog 0 call (opsAt (fAt Try.f26 [1,1,1,1,0,1,0,0,1,1,0,0,1,1,1,0,0,1,1,1])) ((opsAt (fAt Try.f26 [1,1,1,1,0,1,0,0,1,1,0,0,1,1,1,0,0,1,1,1])).drop 0) a H (K .normal) := at_region (by kernel_rfl)
theorem n26_60 : gCode Try.prog call k (fAt Try.f26 [1,1,1,1,1,1,0,0]) a H K = gOps Try.prog 0 call (opsAt (fAt Try.f26 [1,1,1,1,1,1,0,0])) ((opsAt (fAt Try.f26 [1,1,1,1,1,1,0,0])).drop 0) a H (K .normal) := at_region (by kernel_rfl)
theorem n26_61 : gCode Try.prog call k (fAt Try.f26 [1,1,1,1,1,1,0,1]) a H K = gCode Try.prog call k (fAt Try.f26 [1,1,1,1,1,1,0,1,0]) a H (hBlock 4 K) := at_block (by kernel_rfl)
theorem n26_62 : gCode Try.prog call k (fAt Try.f26 [1,1,1,1,1,1,0,1,0]) a H K = gLoop (gCode Try.prog call k (fAt Try.f26 [1,1,1,1,1,1,0,1,0,0])) K k a H := at_loop (by kernel_rfl)
theorem n26_63 : gCode Try.prog call k (fAt Try.f26 [1,1,1,1,1,1,0,1,0,0]) a H K = gCode Try.prog call k (fAt Try.f26 [1,1,1,1,1,1,0,1,0,0,0]) a H (hSeq (gCode Try.prog call k (fAt Try.f26 [1,1,1,1,1,1,0,1,0,0,1])) K) := at_seq (by kernel_rfl)
theorem n26_64 : gCode Try.prog call k (fAt Try.f26 [1,1,1,1,1,1,0,1,0,0,0]) a H K = gOps Try.prog 0 call (opsAt (fAt Try.f26 [1,1,1,1,1,1,0,1,0,0,0])) ((opsAt (fAt Try.f26 [1,1,1,1,1,1,0,1,0,0,0])).drop 0) a H (K .normal) := at_region (by kernel_rfl)
theorem n26_65 : gCode Try.prog call k (fAt Try.f26 [1,1,1,1,1,1,0,1,0,0,1]) a H K = gCode Try.prog call k (fAt Try.f26 [1,1,1,1,1,1,0,1,0,0,1,0]) a H (hSeq (gCode Try.prog call k (fAt Try.f26 [1,1,1,1,1,1,0,1,0,0,1,1])) K) := at_seq (by kernel_rfl)
theorem n26_66 : gCode Try.prog call k (fAt Try.f26 [1,1,1,1,1,1,0,1,0,0,1,0]) a H K = onBool (asB (GA.eval a (.tmp 79))) (gCode Try.prog call k (fAt Try.f26 [1,1,1,1,1,1,0,1,0,0,1,0,0]) a H K) (gCode Try.prog call k (fAt Try.f26 [1,1,1,1,1,1,0,1,0,0,1,0,1]) a H K) := at_cond (by kernel_rfl)
theorem n26_67 : gCode Try.prog call k (fAt Try.f26 [1,1,1,1,1,1,0,1,0,0,1,0,0]) a H K = K .normal a H := at_skip (by kernel_rfl)
theorem n26_68 : gCode Try.prog call k (fAt Try.f26 [1,1,1,1,1,1,0,1,0,0,1,1]) a H K = gCode Try.prog call k (fAt Try.f26 [1,1,1,1,1,1,0,1,0,0,1,1,0]) a H (hSeq (gCode Try.prog call k (fAt Try.f26 [1,1,1,1,1,1,0,1,0,0,1,1,1])) K) := at_seq (by kernel_rfl)
theorem n26_69 : gCode Try.prog call k (fAt Try.f26 [1,1,1,1,1,1,0,1,0,0,1,1,0]) a H K = gCode Try.prog call k (fAt Try.f26 [1,1,1,1,1,1,0,1,0,0,1,1,0,0]) a H (hBlock 5 K) := at_block (by kernel_rfl)
theorem n26_70 : gCode Try.prog call k (fAt Try.f26 [1,1,1,1,1,1,0,1,0,0,1,1,0,0]) a H K = gCode Try.prog call k (fAt Try.f26 [1,1,1,1,1,1,0,1,0,0,1,1,0,0,0]) a H (hSeq (gCode Try.prog call k (fAt Try.f26 [1,1,1,1,1,1,0,1,0,0,1,1,0,0,1])) K) := at_seq (by kernel_rfl)
theorem n26_71 : gCode Try.prog call k (fAt Try.f26 [1,1,1,1,1,1,0,1,0,0,1,1,0,0,0]) a H K = gOps Try.prog 0 call (opsAt (fAt Try.f26 [1,1,1,1,1,1,0,1,0,0,1,1,0,0,0])) ((opsAt (fAt Try.f26 [1,1,1,1,1,1,0,1,0,0,1,1,0,0,0])).drop 0) a H (K .normal) := at_region (by kernel_rfl)
theorem n26_72 : gCode Try.prog call k (fAt Try.f26 [1,1,1,1,1,1,0,1,0,0,1,1,0,0,1]) a H K = gOps Try.prog 0 call (opsAt (fAt Try.f26 [1,1,1,1,1,1,0,1,0,0,1,1,0,0,1])) ((opsAt (fAt Try.f26 [1,1,1,1,1,1,0,1,0,0,1,1,0,0,1])).drop 0) a H (K .normal) := at_region (by kernel_rfl)
theorem n26_73 : gCode Try.prog call k (fAt Try.f26 [1,1,1,1,1,1,0,1,0,0,1,1,1]) a H K = gOps Try.prog 0 call (opsAt (fAt Try.f26 [1,1,1,1,1,1,0,1,0,0,1,1,1])) ((opsAt (fAt Try.f26 [1,1,1,1,1,1,0,1,0,0,1,1,1])).drop 0) a H (K .normal) := at_region (by kernel_rfl)
theorem n26_74 : gCode Try.prog call k (fAt Try.f26 [1,1,1,1,1,1,0,1,0,0,1,0,1]) a H K = K (.exit 4) a H := at_exit (by kernel_rfl)
theorem n26_75 : gCode Try.prog call k (fAt Try.f26 [1,1,1,1,1,1,1]) a H K = gCode Try.prog call k (fAt Try.f26 [1,1,1,1,1,1,1,0]) a H (hSeq (gCode Try.prog call k (fAt Try.f26 [1,1,1,1,1,1,1,1])) K) := at_seq (by kernel_rfl)
theorem n26_76 : gCode Try.prog call k (fAt Try.f26 [1,1,1,1,1,1,1,0]) a H K = gCode Try.prog call k (fAt Try.f26 [1,1,1,1,1,1,1,0,0]) a H (hSeq (gCode Try.prog call k (fAt Try.f26 [1,1,1,1,1,1,1,0,1])) K) := at_seq (by kernel_rfl)
theorem n26_77 : gCode Try.prog call k (fAt Try.f26 [1,1,1,1,1,1,1,0,0]) a H K = gOps Try.prog 0 call (opsAt (fAt Try.f26 [1,1,1,1,1,1,1,0,0])) ((opsAt (fAt Try.f26 [1,1,1,1,1,1,1,0,0])).drop 0) a H (K .normal) := at_region (by kernel_rfl)
theorem n26_78 : gCode Try.prog call k (fAt Try.f26 [1,1,1,1,1,1,1,0,1]) a H K = gCode Try.prog call k (fAt Try.f26 [1,1,1,1,1,1,1,0,1,0]) a H (hSeq (gCode Try.prog call k (fAt Try.f26 [1,1,1,1,1,1,1,0,1,1])) K) := at_seq (by kernel_rfl)
theorem n26_79 : gCode Try.prog call k (fAt Try.f26 [1,1,1,1,1,1,1,0,1,0]) a H K = gOps Try.prog 0 call (opsAt (fAt Try.f26 [1,1,1,1,1,1,1,0,1,0])) ((opsAt (fAt Try.f26 [1,1,1,1,1,1,1,0,1,0])).drop 0) a H (K .normal) := at_region (by kernel_rfl)
theorem n26_80 : gCode Try.prog call k (fAt Try.f26 [1,1,1,1,1,1,1,0,1,1]) a H K = onBool (asB (GA.eval a (.tmp 93))) (gCode Try.prog call k (fAt Try.f26 [1,1,1,1,1,1,1,0,1,1,0]) a H K) (gCode Try.prog call k (fAt Try.f26 [1,1,1,1,1,1,1,0,1,1,1]) a H K) := at_cond (by kernel_rfl)
theorem n26_81 : gCode Try.prog call k (fAt Try.f26 [1,1,1,1,1,1,1,0,1,1,0]) a H K = gCode Try.prog call k (fAt Try.f26 [1,1,1,1,1,1,1,0,1,1,0,0]) a H (hSeq (gCode Try.prog call k (fAt Try.f26 [1,1,1,1,1,1,1,0,1,1,0,1])) K) := at_seq (by kernel_rfl)
theorem n26_82 : gCode Try.prog call k (fAt Try.f26 [1,1,1,1,1,1,1,0,1,1,0,0]) a H K = gOps Try.prog 0 call (opsAt (fAt Try.f26 [1,1,1,1,1,1,1,0,1,1,0,0])) ((opsAt (fAt Try.f26 [1,1,1,1,1,1,1,0,1,1,0,0])).drop 0) a H (K .normal) := at_region (by kernel_rfl)
theorem n26_83 : gCode Try.prog call k (fAt Try.f26 [1,1,1,1,1,1,1,0,1,1,0,1]) a H K = K .ret a H := at_ret (by kernel_rfl)
theorem n26_84 : gCode Try.prog call k (fAt Try.f26 [1,1,1,1,1,1,1,0,1,1,1]) a H K = K .normal a H := at_skip (by kernel_rfl)
theorem n26_85 : gCode Try.prog call k (fAt Try.f26 [1,1,1,1,1,1,1,1]) a H K = gCode Try.prog call k (fAt Try.f26 [1,1,1,1,1,1,1,1,0]) a H (hSeq (gCode Try.prog call k (fAt Try.f26 [1,1,1,1,1,1,1,1,1])) K) := at_seq (by kernel_rfl)
theorem n26_86 : gCode Try.prog call k (fAt Try.f26 [1,1,1,1,1,1,1,1,0]) a H K = gOps Try.prog 0 call (opsAt (fAt Try.f26 [1,1,1,1,1,1,1,1,0])) ((opsAt (fAt Try.f26 [1,1,1,1,1,1,1,1,0])).drop 0) a H (K .normal) := at_region (by kernel_rfl)
theorem n26_87 : gCode Try.prog call k (fAt Try.f26 [1,1,1,1,1,1,1,1,1]) a H K = K .ret a H := at_ret (by kernel_rfl)
theorem s26_0 : gOps Try.prog 0 call (opsAt (fAt Try.f26 [0])) ((opsAt (fAt Try.f26 [0])).drop 0) ((FF 96 fun _ => undef) |>.set 0 p0 |>.set 1 p1 |>.set 2 p2) H K' =
  K' ((FF 96 fun _ => undef) |>.set 0 p0 |>.set 1 p1 |>.set 2 p2 |>.set 5 (.pointer (some ⟨H.n, 0, none⟩)) |>.set 6 (.slice none 0 0) |>.set 7 (.int .i64 0)) (GH.push H (.row (Value.cells p2).toList 62 false)) := by kernel_rfl
theorem s26_1 : gOps Try.prog 0 call (opsAt (fAt Try.f26 [1,0,0])) ((opsAt (fAt Try.f26 [1,0,0])).drop 0) ((FF 96 fun _ => undef) |>.set 0 p0 |>.set 1 p1 |>.set 2 p2 |>.set 5 (.pointer (some ⟨H.n, 0, none⟩)) |>.set 6 (.slice none 0 0) |>.set 7 (.int .i64 0)) (GH.push H (.row (Value.cells p2).toList 62 false)) K' =
  onCall 0 call (.func (.func 25) #[] #[]) [p0] (GH.push H (.row (Value.cells p2).toList 62 false)) fun v1 H2 =>
  K' ((FF 96 fun _ => undef) |>.set 0 p0 |>.set 1 p1 |>.set 2 p2 |>.set 5 (.pointer (some ⟨H.n, 0, none⟩)) |>.set 6 (.slice none 0 0) |>.set 7 (.int .i64 0) |>.set 16 p0 |>.set 17 v1 |>.set 8 v1) H2 := by kernel_rfl
theorem s26_2 : gOps Try.prog 0 call (opsAt (fAt Try.f26 [1,0,1,0])) ((opsAt (fAt Try.f26 [1,0,1,0])).drop 0) ((FF 96 fun _ => undef) |>.set 0 p0 |>.set 1 p1 |>.set 2 p2 |>.set 5 (.pointer (some ⟨H.n, 0, none⟩)) |>.set 6 (.slice none 0 0) |>.set 7 (.int .i64 0) |>.set 16 p0 |>.set 17 v1 |>.set 8 v1) H2 K' =
  onV ((oBin Try.prog .neq 27 v1 (.int .i64 0)).filter closed) fun v3 =>
  K' ((FF 96 fun _ => undef) |>.set 0 p0 |>.set 1 p1 |>.set 2 p2 |>.set 5 (.pointer (some ⟨H.n, 0, none⟩)) |>.set 6 (.slice none 0 0) |>.set 7 (.int .i64 0) |>.set 16 p0 |>.set 17 v1 |>.set 8 v1 |>.set 18 v1 |>.set 19 v3) H2 := by kernel_rfl
theorem s26_3 : gOps Try.prog 0 call (opsAt (fAt Try.f26 [1,0,1,1,0,0])) ((opsAt (fAt Try.f26 [1,0,1,1,0,0])).drop 0) ((FF 96 fun _ => undef) |>.set 0 p0 |>.set 1 p1 |>.set 2 p2 |>.set 5 (.pointer (some ⟨H.n, 0, none⟩)) |>.set 6 (.slice none 0 0) |>.set 7 (.int .i64 0) |>.set 16 p0 |>.set 17 v1 |>.set 8 v1 |>.set 18 v1 |>.set 19 v3) H2 K' =
  K' ((FF 96 fun _ => undef) |>.set 0 p0 |>.set 1 p1 |>.set 2 p2 |>.set 5 (.pointer (some ⟨H.n, 0, none⟩)) |>.set 6 (.slice none 0 0) |>.set 7 (.int .i64 0) |>.set 16 p0 |>.set 17 v1 |>.set 8 v1 |>.set 18 v1 |>.set 19 v3 |>.set 20 v1 |>.set 6 (.slice none 0 0) |>.set 7 v1) H2 := by kernel_rfl
theorem s26_4 : gOps Try.prog 0 call (opsAt (fAt Try.f26 [1,1,0,0])) (((opsAt (fAt Try.f26 [1,1,0,0])).drop 0).take 3) ((FF 96 fun _ => undef) |>.set 0 p0 |>.set 1 p1 |>.set 2 p2 |>.set 5 (.pointer (some ⟨H.n, 0, none⟩)) |>.set 6 (.slice none 0 0) |>.set 7 (.int .i64 0) |>.set 16 p0 |>.set 17 v1 |>.set 8 v1 |>.set 18 v1 |>.set 19 v3) H2 K' =
  onV ((oBin Try.prog .lss 5 p1 (.int .u8 1)).filter closed) fun v4 =>
  onGrd true v4 (K' ((FF 96 fun _ => undef) |>.set 0 p0 |>.set 1 p1 |>.set 2 p2 |>.set 5 (.pointer (some ⟨H.n, 0, none⟩)) |>.set 6 (.slice none 0 0) |>.set 7 (.int .i64 0) |>.set 16 p0 |>.set 17 v1 |>.set 8 v1 |>.set 18 v1 |>.set 19 v3 |>.set 21 p1 |>.set 22 v4 |>.set 23 v4) H2) := by kernel_rfl
theorem s26_5 : gOps Try.prog 0 call (opsAt (fAt Try.f26 [1,1,0,0])) ((opsAt (fAt Try.f26 [1,1,0,0])).drop 3) ((FF 96 d) |>.set 23 (.bool true)) H K' =
  K' ((FF 96 d) |>.set 23 (.bool true) |>.set 24 undef |>.set 25 undef |>.set 26 (.bool true)) H := by kernel_rfl
theorem s26_6 : gOps Try.prog 0 call (opsAt (fAt Try.f26 [1,1,0,1,0,0])) ((opsAt (fAt Try.f26 [1,1,0,1,0,0])).drop 0) ((FF 96 d) |>.set 23 (.bool true) |>.set 24 undef |>.set 25 undef |>.set 26 (.bool true)) H K' =
  K' ((FF 96 d) |>.set 23 (.bool true) |>.set 24 undef |>.set 25 undef |>.set 26 (.bool true) |>.set 6 (.slice none 0 0) |>.set 7 (.int .i64 1)) H := by kernel_rfl
theorem s26_7 : gOps Try.prog 0 call (opsAt (fAt Try.f26 [1,1,0,0])) ((opsAt (fAt Try.f26 [1,1,0,0])).drop 3) ((FF 96 d) |>.set 23 (.bool false)) H K' =
  onV ((oBin Try.prog .gtr 5 (d 1) (.int .u8 6)).filter closed) fun v1 =>
  K' ((FF 96 d) |>.set 23 (.bool false) |>.set 24 (d 1) |>.set 25 v1 |>.set 26 v1) H := by kernel_rfl
theorem s26_8 : gOps Try.prog 0 call (opsAt (fAt Try.f26 [1,1,0,1,0,0])) ((opsAt (fAt Try.f26 [1,1,0,1,0,0])).drop 0) ((FF 96 d) |>.set 23 (.bool false) |>.set 24 (d 1) |>.set 25 v1 |>.set 26 v1) H K' =
  K' ((FF 96 d) |>.set 23 (.bool false) |>.set 24 (d 1) |>.set 25 v1 |>.set 26 v1 |>.set 6 (.slice none 0 0) |>.set 7 (.int .i64 1)) H := by kernel_rfl
theorem s26_9 : gOps Try.prog 0 call (opsAt (fAt Try.f26 [1,1,1,0])) ((opsAt (fAt Try.f26 [1,1,1,0])).drop 0) ((FF 96 d) |>.set 23 (.bool false) |>.set 24 (d 1) |>.set 25 v1 |>.set 26 v1) H K' =
  onV (oLen Try.prog 58 (d 0)) fun v2 =>
  onVH (gMakeSlice Try.prog 58 v2 v2 H) fun v3 H4 =>
  K' ((FF 96 d) |>.set 23 (.bool false) |>.set 24 (d 1) |>.set 25 v1 |>.set 26 v1 |>.set 27 (d 0) |>.set 28 v2 |>.set 29 v3 |>.set 9 v3) H4 := by kernel_rfl
theorem s26_10 : gOps Try.prog 0 call (opsAt (fAt Try.f26 [1,1,1,1,0,0])) ((opsAt (fAt Try.f26 [1,1,1,1,0,0])).drop 0) ((FF 96 d) |>.set 23 (.bool false) |>.set 24 (d 1) |>.set 25 v1 |>.set 26 v1 |>.set 27 (d 0) |>.set 28 v2 |>.set 29 v3 |>.set 9 v3) H4 K' =
  onV (oLen Try.prog 58 (d 0)) fun v5 =>
  K' ((FF 96 d) |>.set 23 (.bool false) |>.set 24 (d 1) |>.set 25 v1 |>.set 26 v1 |>.set 27 (d 0) |>.set 28 v2 |>.set 29 v3 |>.set 9 v3 |>.set 30 (d 0) |>.set 31 v5 |>.set 32 (.int .i64 0)) H4 := by kernel_rfl
theorem s26_11 : gOps Try.prog 0 call (opsAt (fAt Try.f26 [1,1,1,1,0,1,0,0,0])) ((opsAt (fAt Try.f26 [1,1,1,1,0,1,0,0,0])).drop 0) (FF 96 d) H K' =
  onV ((oBin Try.prog .lss 3 (d 32) (d 31)).filter closed) fun v1 =>
  K' ((FF 96 d) |>.set 33 v1) H := by kernel_rfl
theorem s26_12 : gOps Try.prog 0 call (opsAt (fAt Try.f26 [1,1,1,1,0,1,0,0,1,1,0,0,0])) ((opsAt (fAt Try.f26 [1,1,1,1,0,1,0,0,1,1,0,0,0])).drop 0) ((FF 96 d) |>.set 33 v1) H K' =
  onV (oIndexAddr Try.prog 58 (d 30) (d 32)) fun v2 =>
  onV (gLoad Try.prog 59 v2 H) fun v3 =>
  K' ((FF 96 d) |>.set 33 v1 |>.set 34 (d 32) |>.set 35 v2 |>.set 36 v3 |>.set 10 (d 32) |>.set 11 v3) H := by kernel_rfl
theorem s26_13 : gOps Try.prog 0 call (opsAt (fAt Try.f26 [1,1,1,1,0,1,0,0,1,1,0,0,1,0])) ((opsAt (fAt Try.f26 [1,1,1,1,0,1,0,0,1,1,0,0,1,0])).drop 0) ((FF 96 d) |>.set 33 v1 |>.set 34 (d 32) |>.set 35 v2 |>.set 36 v3 |>.set 10 (d 32) |>.set 11 v3) H K' =
  onV (oLen Try.prog 59 v3) fun v4 =>
  onV ((oBin Try.prog .add 3 v4 (.int .i64 1)).filter closed) fun v5 =>
  onVH (gMakeSlice Try.prog 59 (.int .i64 0) v5 H) fun v6 H7 =>
  onV (oIndexAddr Try.prog 58 (d 9) (d 32)) fun v8 =>
  onH (gStore Try.prog 59 v8 v6 H7) fun H9 =>
  K' ((FF 96 d) |>.set 33 v1 |>.set 34 (d 32) |>.set 35 v2 |>.set 36 v3 |>.set 10 (d 32) |>.set 11 v3 |>.set 37 (d 9) |>.set 38 (d 32) |>.set 39 v3 |>.set 40 v4 |>.set 41 v5 |>.set 42 v6 |>.set 43 v8) H9 := by kernel_rfl
theorem s26_14 : gOps Try.prog 0 call (opsAt (fAt Try.f26 [1,1,1,1,0,1,0,0,1,1,0,0,1,1,0])) ((opsAt (fAt Try.f26 [1,1,1,1,0,1,0,0,1,1,0,0,1,1,0])).drop 0) ((FF 96 d) |>.set 33 v1 |>.set 34 (d 32) |>.set 35 v2 |>.set 36 v3 |>.set 10 (d 32) |>.set 11 v3 |>.set 37 (d 9) |>.set 38 (d 32) |>.set 39 v3 |>.set 40 v4 |>.set 41 v5 |>.set 42 v6 |>.set 43 v8) H9 K' =
  onV (oLen Try.prog 59 v3) fun v10 =>
  K' ((FF 96 d) |>.set 33 v1 |>.set 34 (d 32) |>.set 35 v2 |>.set 36 v3 |>.set 10 (d 32) |>.set 11 v3 |>.set 37 (d 9) |>.set 38 (d 32) |>.set 39 v3 |>.set 40 v4 |>.set 41 v5 |>.set 42 v6 |>.set 43 v8 |>.set 44 v3 |>.set 45 v10 |>.set 46 (.int .i64 0)) H9 := by kernel_rfl
theorem s26_15 : gOps Try.prog 0 call (opsAt (fAt Try.f26 [1,1,1,1,0,1,0,0,1,1,0,0,1,1,1,0,0,0])) ((opsAt (fAt Try.f26 [1,1,1,1,0,1,0,0,1,1,0,0,1,1,1,0,0,0])).drop 0) (FF 96 d) H K' =
  onV ((oBin Try.prog .lss 3 (d 46) (d 45)).filter closed) fun v1 =>
  K' ((FF 96 d) |>.set 47 v1) H := by kernel_rfl
theorem s26_16 : gOps Try.prog 0 call (opsAt (fAt Try.f26 [1,1,1,1,0,1,0,0,1,1,0,0,1,1,1,0,0,1,1,0,0,0])) ((opsAt (fAt Try.f26 [1,1,1,1,0,1,0,0,1,1,0,0,1,1,1,0,0,1,1,0,0,0])).drop 0) ((FF 96 d) |>.set 47 v1) H K' =
  onV (oIndexAddr Try.prog 59 (d 44) (d 46)) fun v2 =>
  onV (gLoad Try.prog 62 v2 H) fun v3 =>
  onH (gStore Try.prog 62 (.pointer (some ⟨H.n, 0, none⟩)) v3 (GH.push H (.row [(.int .u8 0), (.bool false), (.slice none 0 0), (.slice none 0 0)] 62 false))) fun H4 =>
  K' ((FF 96 d) |>.set 47 v1 |>.set 48 v2 |>.set 49 v3 |>.set 13 (.pointer (some ⟨H.n, 0, none⟩))) H4 := by kernel_rfl
theorem s26_17 : gOps Try.prog 0 call (opsAt (fAt Try.f26 [1,1,1,1,0,1,0,0,1,1,1])) ((opsAt (fAt Try.f26 [1,1,1,1,0,1,0,0,1,1,1])).drop 0) ((FF 96 d) |>.set 47 v1) H K' =
  onV ((oBin Try.prog .add 3 (d 32) (.int .i64 1)).filter closed) fun v5 =>
  K' ((FF 96 d) |>.set 47 v1 |>.set 62 v5 |>.set 32 v5) H := by kernel_rfl
theorem s26_18 : gOps Try.prog 2 call (opsAt (fAt Try.f26 [1,1,1,1,1,0])) ((opsAt (fAt Try.f26 [1,1,1,1,1,0])).drop 0) (FF 96 d) H K' =
  onV ((oBin Try.prog .sub 5 (d 1) (.int .u8 1)).filter closed) fun v1 =>
  onV ((oBin Try.prog .sub 5 (d 1) (.int .u8 1)).filter closed) fun v2 =>
  onV (oIndexAddr Try.prog 58 (d 9) v2) fun v3 =>
  onV (gLoad Try.prog 59 v3 H) fun v4 =>
  onV (gLoad Try.prog 62 (d 5) H) fun v5 =>
  onCall 2 call (.func (.func 79) #[] #[]) [v5] H fun v6 H7 =>
  onVH (gBuildSlice Try.prog 59 1 [(0, v6)] H7) fun v8 H9 =>
  onVH (gAppend Try.prog 59 59 v4 v8 H9) fun v10 H11 =>
  onV (oIndexAddr Try.prog 58 (d 9) v1) fun v12 =>
  onH (gStore Try.prog 59 v12 v10 H11) fun H13 =>
  K' ((FF 96 d) |>.set 63 (d 9) |>.set 64 (d 1) |>.set 65 v1 |>.set 66 (d 9) |>.set 67 (d 1) |>.set 68 v2 |>.set 69 v3 |>.set 70 v4 |>.set 71 v5 |>.set 72 v6 |>.set 73 v8 |>.set 74 v10 |>.set 75 v12) H13 := by kernel_rfl
theorem s26_19 : gOps Try.prog 2 call (opsAt (fAt Try.f26 [1,1,1,1,0,1,0,0,1,1,0,0,1,1,1,0,0,1,1,0,0,1])) ((opsAt (fAt Try.f26 [1,1,1,1,0,1,0,0,1,1,0,0,1,1,1,0,0,1,1,0,0,1])).drop 0) (FF 96 d) H K' =
  onV (oIndexAddr Try.prog 58 (d 9) (d 10)) fun v1 =>
  onV (gLoad Try.prog 59 v1 H) fun v2 =>
  onV (gLoad Try.prog 62 (d 13) H) fun v3 =>
  onCall 2 call (.func (.func 79) #[] #[]) [v3] H fun v4 H5 =>
  onVH (gBuildSlice Try.prog 59 1 [(0, v4)] H5) fun v6 H7 =>
  onVH (gAppend Try.prog 59 59 v2 v6 H7) fun v8 H9 =>
  onV (oIndexAddr Try.prog 58 (d 9) (d 10)) fun v10 =>
  onH (gStore Try.prog 59 v10 v8 H9) fun H11 =>
  K' ((FF 96 d) |>.set 50 (d 9) |>.set 51 (d 10) |>.set 52 (d 9) |>.set 53 (d 10) |>.set 54 v1 |>.set 55 v2 |>.set 56 v3 |>.set 57 v4 |>.set 58 v6 |>.set 59 v8 |>.set 60 v10) H11 := by kernel_rfl
theorem s26_20 : gOps Try.prog 0 call (opsAt (fAt Try.f26 [1,1,1,1,0,1,0,0,1,1,0,0,1,1,1,0,0,1,1,1])) ((opsAt (fAt Try.f26 [1,1,1,1,0,1,0,0,1,1,0,0,1,1,1,0,0,1,1,1])).drop 0) ((FF 96 d) |>.set 50 (d 9) |>.set 51 (d 10) |>.set 52 (d 9) |>.set 53 (d 10) |>.set 54 v1 |>.set 55 v2 |>.set 56 v3 |>.set 57 v4 |>.set 58 v6 |>.set 59 v8 |>.set 60 v10) H11 K' =
  onV ((oBin Try.prog .add 3 (d 46) (.int .i64 1)).filter closed) fun v12 =>
  K' ((FF 96 d) |>.set 50 (d 9) |>.set 51 (d 10) |>.set 52 (d 9) |>.set 53 (d 10) |>.set 54 v1 |>.set 55 v2 |>.set 56 v3 |>.set 57 v4 |>.set 58 v6 |>.set 59 v8 |>.set 60 v10 |>.set 61 v12 |>.set 46 v12) H11 := by kernel_rfl
theorem s26_21 : gOps Try.prog 0 call (opsAt (fAt Try.f26 [1,1,1,1,1,1,0,0])) ((opsAt (fAt Try.f26 [1,1,1,1,1,1,0,0])).drop 0) (FF 96 d) H K' =
  onV (oLen Try.prog 58 (d 9)) fun v1 =>
  K' ((FF 96 d) |>.set 76 (d 9) |>.set 77 v1 |>.set 78 (.int .i64 0)) H := by kernel_rfl
theorem s26_22 : gOps Try.prog 0 call (opsAt (fAt Try.f26 [1,1,1,1,1,1,0,1,0,0,0])) ((opsAt (fAt Try.f26 [1,1,1,1,1,1,0,1,0,0,0])).drop 0) (FF 96 d) H K' =
  onV ((oBin Try.prog .lss 3 (d 78) (d 77)).filter closed) fun v1 =>
  K' ((FF 96 d) |>.set 79 v1) H := by kernel_rfl
theorem s26_23 : gOps Try.prog 0 call (opsAt (fAt Try.f26 [1,1,1,1,1,1,0,1,0,0,1,1,0,0,0])) ((opsAt (fAt Try.f26 [1,1,1,1,1,1,0,1,0,0,1,1,0,0,0])).drop 0) ((FF 96 d) |>.set 79 v1) H K' =
  K' ((FF 96 d) |>.set 79 v1 |>.set 80 (d 78) |>.set 14 (d 78)) H := by kernel_rfl
theorem s26_24 : gOps Try.prog 0 call (opsAt (fAt Try.f26 [1,1,1,1,1,1,0,1,0,0,1,1,0,0,1])) ((opsAt (fAt Try.f26 [1,1,1,1,1,1,0,1,0,0,1,1,0,0,1])).drop 0) ((FF 96 d) |>.set 79 v1 |>.set 80 (d 78) |>.set 14 (d 78)) H K' =
  onV (oIndexAddr Try.prog 58 (d 9) (d 78)) fun v2 =>
  onV (gLoad Try.prog 59 v2 H) fun v3 =>
  onCall 0 call (.func (.func 80) #[] #[]) [v3] H fun v4 H5 =>
  onV (oIndexAddr Try.prog 58 (d 9) (d 78)) fun v6 =>
  onH (gStore Try.prog 59 v6 v4 H5) fun H7 =>
  K' ((FF 96 d) |>.set 79 v1 |>.set 80 (d 78) |>.set 14 (d 78) |>.set 81 (d 9) |>.set 82 (d 78) |>.set 83 (d 9) |>.set 84 (d 78) |>.set 85 v2 |>.set 86 v3 |>.set 87 v4 |>.set 88 v6) H7 := by kernel_rfl
theorem s26_25 : gOps Try.prog 0 call (opsAt (fAt Try.f26 [1,1,1,1,1,1,0,1,0,0,1,1,1])) ((opsAt (fAt Try.f26 [1,1,1,1,1,1,0,1,0,0,1,1,1])).drop 0) ((FF 96 d) |>.set 79 v1 |>.set 80 (d 78) |>.set 14 (d 78) |>.set 81 (d 9) |>.set 82 (d 78) |>.set 83 (d 9) |>.set 84 (d 78) |>.set 85 v2 |>.set 86 v3 |>.set 87 v4 |>.set 88 v6) H7 K' =
  onV ((oBin Try.prog .add 3 (d 78) (.int .i64 1)).filter closed) fun v8 =>
  K' ((FF 96 d) |>.set 79 v1 |>.set 80 (d 78) |>.set 14 (d 78) |>.set 81 (d 9) |>.set 82 (d 78) |>.set 83 (d 9) |>.set 84 (d 78) |>.set 85 v2 |>.set 86 v3 |>.set 87 v4 |>.set 88 v6 |>.set 89 v8 |>.set 78 v8) H7 := by kernel_rfl
theorem s26_26 : gOps Try.prog 0 call (opsAt (fAt Try.f26 [1,1,1,1,1,1,1,0,0])) ((opsAt (fAt Try.f26 [1,1,1,1,1,1,1,0,0])).drop 0) (FF 96 d) H K' =
  onCall 0 call (.func (.func 25) #[] #[]) [(d 9)] H fun v1 H2 =>
  K' ((FF 96 d) |>.set 90 (d 9) |>.set 91 v1 |>.set 15 v1) H2 := by kernel_rfl
theorem s26_27 : gOps Try.prog 0 call (opsAt (fAt Try.f26 [1,1,1,1,1,1,1,0,1,0])) ((opsAt (fAt Try.f26 [1,1,1,1,1,1,1,0,1,0])).drop 0) ((FF 96 d) |>.set 90 (d 9) |>.set 91 v1 |>.set 15 v1) H2 K' =
  onV ((oBin Try.prog .neq 27 v1 (.int .i64 0)).filter closed) fun v3 =>
  K' ((FF 96 d) |>.set 90 (d 9) |>.set 91 v1 |>.set 15 v1 |>.set 92 v1 |>.set 93 v3) H2 := by kernel_rfl
theorem s26_28 : gOps Try.prog 0 call (opsAt (fAt Try.f26 [1,1,1,1,1,1,1,0,1,1,0,0])) ((opsAt (fAt Try.f26 [1,1,1,1,1,1,1,0,1,1,0,0])).drop 0) ((FF 96 d) |>.set 90 (d 9) |>.set 91 v1 |>.set 15 v1 |>.set 92 v1 |>.set 93 v3) H2 K' =
  K' ((FF 96 d) |>.set 90 (d 9) |>.set 91 v1 |>.set 15 v1 |>.set 92 v1 |>.set 93 v3 |>.set 94 v1 |>.set 6 (.slice none 0 0) |>.set 7 v1) H2 := by kernel_rfl
theorem s26_29 : gOps Try.prog 0 call (opsAt (fAt Try.f26 [1,1,1,1,1,1,1,1,0])) ((opsAt (fAt Try.f26 [1,1,1,1,1,1,1,1,0])).drop 0) ((FF 96 d) |>.set 90 (d 9) |>.set 91 v1 |>.set 15 v1 |>.set 92 v1 |>.set 93 v3) H2 K' =
  K' ((FF 96 d) |>.set 90 (d 9) |>.set 91 v1 |>.set 15 v1 |>.set 92 v1 |>.set 93 v3 |>.set 95 (d 9) |>.set 6 (d 9) |>.set 7 (.int .i64 0)) H2 := by kernel_rfl
def f26_l19_P (ag : GA → GH → M (Value × GH)) (sg : Value → Value → Value → GH → M (Value × GH)) : Prop := ∀ (d : Nat → Value) (H : GH), ag (FF 96 d) H = sg (d 9) (d 77) (d 78) H
theorem f26_l19_at {ag : GA → GH → M (Value × GH)} {sg : Value → Value → Value → GH → M (Value × GH)} (h : f26_l19_P ag sg) : ag (FF 96 d) H = sg (d 9) (d 77) (d 78) H := h d H
def f26_l12_P (ag : GA → GH → M (Value × GH)) (sg : Value → Value → Value → Value → Value → Value → Value → Value → Value → Value → GH → M (Value × GH)) : Prop := ∀ (d : Nat → Value) (H : GH), ag (FF 96 d) H = sg (d 1) (d 5) (d 9) (d 10) (d 30) (d 31) (d 32) (d 44) (d 45) (d 46) H
theorem f26_l12_at {ag : GA → GH → M (Value × GH)} {sg : Value → Value → Value → Value → Value → Value → Value → Value → Value → Value → GH → M (Value × GH)} (h : f26_l12_P ag sg) : ag (FF 96 d) H = sg (d 1) (d 5) (d 9) (d 10) (d 30) (d 31) (d 32) (d 44) (d 45) (d 46) H := h d H
def f26_l8_P (ag : GA → GH → M (Value × GH)) (sg : Value → Value → Value → Value → Value → Value → GH → M (Value × GH)) : Prop := ∀ (d : Nat → Value) (H : GH), ag (FF 96 d) H = sg (d 1) (d 5) (d 9) (d 30) (d 31) (d 32) H
theorem f26_l8_at {ag : GA → GH → M (Value × GH)} {sg : Value → Value → Value → Value → Value → Value → GH → M (Value × GH)} (h : f26_l8_P ag sg) : ag (FF 96 d) H = sg (d 1) (d 5) (d 9) (d 30) (d 31) (d 32) H := h d H
noncomputable def f26_r23 (call : Handle) (k : Nat) (x9 : Value) (H : GH) : M (Value × GH) :=
  onCall 0 call (.func (.func 25) #[] #[]) [x9] H fun v1 H2 =>
  onV ((oBin Try.prog .neq 27 v1 (.int .i64 0)).filter closed) fun v3 =>
  onBool (asB v3)
  (some [((.tuple #[(.slice none 0 0), v1]), H2)])
  (some [((.tuple #[x9, (.int .i64 0)]), H2)])
theorem f26_r23_eq (call : Handle) (k : Nat) : gCode Try.prog call k (fAt Try.f26 [1,1,1,1,1,1,1]) (FF 96 d) H (hFin Try.prog Try.f26) = f26_r23 call k (d 9) H := by
  unfold f26_r23
  rw [n26_75]
  rw [n26_76]
  rw [n26_77]
  rw [s26_26]
  refine onCall_c fun v1 H2 => ?_
  rw [hSeq_n]
  rw [n26_78]
  rw [n26_79]
  rw [s26_27]
  refine onV_c fun v3 => ?_
  rw [hSeq_n]
  rw [n26_80]
  refine onBool_cc (by kernel_rfl) ?_ ?_
  · rw [n26_81]
    rw [n26_82]
    rw [s26_28]
    rw [hSeq_n]
    rw [n26_83]
    rw [hSeq_r]
    kernel_rfl
  · rw [n26_84]
    rw [hSeq_n]
    rw [n26_85]
    rw [n26_86]
    rw [s26_29]
    rw [hSeq_n]
    rw [n26_87]
    kernel_rfl
noncomputable def f26_l19b (call : Handle) (k : Nat) (sg_l19 : Value → Value → Value → GH → M (Value × GH)) (x9 x77 x78 : Value) (H : GH) : M (Value × GH) :=
  onV ((oBin Try.prog .lss 3 x78 x77).filter closed) fun v1 =>
  onBool (asB v1)
  (onV (oIndexAddr Try.prog 58 x9 x78) fun v2 =>
  onV (gLoad Try.prog 59 v2 H) fun v3 =>
  onCall 0 call (.func (.func 80) #[] #[]) [v3] H fun v4 H5 =>
  onV (oIndexAddr Try.prog 58 x9 x78) fun v6 =>
  onH (gStore Try.prog 59 v6 v4 H5) fun H7 =>
  onV ((oBin Try.prog .add 3 x78 (.int .i64 1)).filter closed) fun v8 =>
  (sg_l19 x9 x77 v8 H7))
  ((f26_r23 call k x9 H))
theorem f26_l19b_eq (call : Handle) (k : Nat) (ag_l19 : GA → GH → M (Value × GH)) (sg_l19 : Value → Value → Value → GH → M (Value × GH)) (h_l19 : f26_l19_P ag_l19 sg_l19) : gCode Try.prog call k (fAt Try.f26 [1,1,1,1,1,1,0,1,0,0]) (FF 96 d) H (hLoop ag_l19 (hBlock 4 (hSeq (gCode Try.prog call k (fAt Try.f26 [1,1,1,1,1,1,1])) (hFin Try.prog Try.f26)))) = f26_l19b call k sg_l19 (d 9) (d 77) (d 78) H := by
  unfold f26_l19b
  rw [n26_63]
  rw [n26_64]
  rw [s26_22]
  refine onV_c fun v1 => ?_
  rw [hSeq_n]
  rw [n26_65]
  rw [n26_66]
  refine onBool_cc (by kernel_rfl) ?_ ?_
  · rw [n26_67]
    rw [hSeq_n]
    rw [n26_68]
    rw [n26_69]
    rw [n26_70]
    rw [n26_71]
    rw [s26_23]
    rw [hSeq_n]
    rw [n26_72]
    rw [s26_24]
    refine onV_c fun v2 => ?_
    refine onV_c fun v3 => ?_
    refine onCall_c fun v4 H5 => ?_
    refine onV_c fun v6 => ?_
    refine onH_c fun H7 => ?_
    rw [hBlock_n]
    rw [hSeq_n]
    rw [n26_73]
    rw [s26_25]
    refine onV_c fun v8 => ?_
    rw [hLoop_n]
    rw [show ((FF 96 d) |>.set 79 v1 |>.set 80 (d 78) |>.set 14 (d 78) |>.set 81 (d 9) |>.set 82 (d 78) |>.set 83 (d 9) |>.set 84 (d 78) |>.set 85 v2 |>.set 86 v3 |>.set 87 v4 |>.set 88 v6 |>.set 89 v8 |>.set 78 v8) = (FF 96 (gf ((FF 96 d) |>.set 79 v1 |>.set 80 (d 78) |>.set 14 (d 78) |>.set 81 (d 9) |>.set 82 (d 78) |>.set 83 (d 9) |>.set 84 (d 78) |>.set 85 v2 |>.set 86 v3 |>.set 87 v4 |>.set 88 v6 |>.set 89 v8 |>.set 78 v8))) from by kernel_rfl]
    exact (f26_l19_at (d := gf ((FF 96 d) |>.set 79 v1 |>.set 80 (d 78) |>.set 14 (d 78) |>.set 81 (d 9) |>.set 82 (d 78) |>.set 83 (d 9) |>.set 84 (d 78) |>.set 85 v2 |>.set 86 v3 |>.set 87 v4 |>.set 88 v6 |>.set 89 v8 |>.set 78 v8)) h_l19).trans (by kernel_rfl)
  · rw [n26_74]
    rw [hSeq_e, hLoop_e, hBlock_hit]
    rw [hSeq_n]
    rw [show ((FF 96 d) |>.set 79 v1) = (FF 96 (gf ((FF 96 d) |>.set 79 v1))) from by kernel_rfl]
    exact (f26_r23_eq (d := gf ((FF 96 d) |>.set 79 v1)) call k).trans (by kernel_rfl)
noncomputable def f26_l19 (call : Handle) (k : Nat) : Nat → Value → Value → Value → GH → M (Value × GH)
  | 0, _, _, _, _ => none
  | r + 1, x9, x77, x78, H => f26_l19b call k (f26_l19 call k r) x9 x77 x78 H
theorem f26_l19_eq (call : Handle) (k : Nat) : ∀ (r : Nat), f26_l19_P (gLoop (gCode Try.prog call k (fAt Try.f26 [1,1,1,1,1,1,0,1,0,0])) (hBlock 4 (hSeq (gCode Try.prog call k (fAt Try.f26 [1,1,1,1,1,1,1])) (hFin Try.prog Try.f26))) r) (f26_l19 call k r) := by
  intro r
  induction r with
  | zero => unfold f26_l19_P; intros; rfl
  | succ r ih => unfold f26_l19_P; intros; exact f26_l19b_eq call k _ _ ih
noncomputable def f26_r18 (call : Handle) (k : Nat) (x9 : Value) (H : GH) : M (Value × GH) :=
  onV (oLen Try.prog 58 x9) fun v1 =>
  (f26_l19 call k k x9 v1 (.int .i64 0) H)
theorem f26_r18_eq (call : Handle) (k : Nat) : gCode Try.prog call k (fAt Try.f26 [1,1,1,1,1,1,0,0]) (FF 96 d) H (hSeq (gCode Try.prog call k (fAt Try.f26 [1,1,1,1,1,1,0,1])) (hSeq (gCode Try.prog call k (fAt Try.f26 [1,1,1,1,1,1,1])) (hFin Try.prog Try.f26))) = f26_r18 call k (d 9) H := by
  unfold f26_r18
  rw [n26_60]
  rw [s26_21]
  refine onV_c fun v1 => ?_
  rw [hSeq_n]
  rw [n26_61]
  rw [n26_62]
  rw [show ((FF 96 d) |>.set 76 (d 9) |>.set 77 v1 |>.set 78 (.int .i64 0)) = (FF 96 (gf ((FF 96 d) |>.set 76 (d 9) |>.set 77 v1 |>.set 78 (.int .i64 0)))) from by kernel_rfl]
  exact (f26_l19_at (d := gf ((FF 96 d) |>.set 76 (d 9) |>.set 77 v1 |>.set 78 (.int .i64 0))) (f26_l19_eq call k k)).trans (by kernel_rfl)
noncomputable def f26_r17 (call : Handle) (k : Nat) (x1 x5 x9 : Value) (H : GH) : M (Value × GH) :=
  onV ((oBin Try.prog .sub 5 x1 (.int .u8 1)).filter closed) fun v1 =>
  onV ((oBin Try.prog .sub 5 x1 (.int .u8 1)).filter closed) fun v2 =>
  onV (oIndexAddr Try.prog 58 x9 v2) fun v3 =>
  onV (gLoad Try.prog 59 v3 H) fun v4 =>
  onV (gLoad Try.prog 62 x5 H) fun v5 =>
  onCall 2 call (.func (.func 79) #[] #[]) [v5] H fun v6 H7 =>
  onVH (gBuildSlice Try.prog 59 1 [(0, v6)] H7) fun v8 H9 =>
  onVH (gAppend Try.prog 59 59 v4 v8 H9) fun v10 H11 =>
  onV (oIndexAddr Try.prog 58 x9 v1) fun v12 =>
  onH (gStore Try.prog 59 v12 v10 H11) fun H13 =>
  (f26_r18 call k x9 H13)
theorem f26_r17_eq (call : Handle) (k : Nat) : gCode Try.prog call k (fAt Try.f26 [1,1,1,1,1]) (FF 96 d) H (hFin Try.prog Try.f26) = f26_r17 call k (d 1) (d 5) (d 9) H := by
  unfold f26_r17
  rw [n26_54]
  rw [n26_55]
  rw [s26_18]
  refine onV_c fun v1 => ?_
  refine onV_c fun v2 => ?_
  refine onV_c fun v3 => ?_
  refine onV_c fun v4 => ?_
  refine onV_c fun v5 => ?_
  refine onCall_c fun v6 H7 => ?_
  refine onVH_c fun v8 H9 => ?_
  refine onVH_c fun v10 H11 => ?_
  refine onV_c fun v12 => ?_
  refine onH_c fun H13 => ?_
  rw [hSeq_n]
  rw [n26_56]
  rw [n26_57]
  rw [show ((FF 96 d) |>.set 63 (d 9) |>.set 64 (d 1) |>.set 65 v1 |>.set 66 (d 9) |>.set 67 (d 1) |>.set 68 v2 |>.set 69 v3 |>.set 70 v4 |>.set 71 v5 |>.set 72 v6 |>.set 73 v8 |>.set 74 v10 |>.set 75 v12) = (FF 96 (gf ((FF 96 d) |>.set 63 (d 9) |>.set 64 (d 1) |>.set 65 v1 |>.set 66 (d 9) |>.set 67 (d 1) |>.set 68 v2 |>.set 69 v3 |>.set 70 v4 |>.set 71 v5 |>.set 72 v6 |>.set 73 v8 |>.set 74 v10 |>.set 75 v12))) from by kernel_rfl]
  exact (f26_r18_eq (d := gf ((FF 96 d) |>.set 63 (d 9) |>.set 64 (d 1) |>.set 65 v1 |>.set 66 (d 9) |>.set 67 (d 1) |>.set 68 v2 |>.set 69 v3 |>.set 70 v4 |>.set 71 v5 |>.set 72 v6 |>.set 73 v8 |>.set 74 v10 |>.set 75 v12)) call k).trans (by kernel_rfl)
noncomputable def f26_r14 (call : Handle) (k : Nat) (sg_l8 : Value → Value → Value → Value → Value → Value → GH → M (Value × GH)) (sg_l12 : Value → Value → Value → Value → Value → Value → Value → Value → Value → Value → GH → M (Value × GH)) (x1 x5 x9 x10 x13 x30 x31 x32 x44 x45 x46 : Value) (H : GH) : M (Value × GH) :=
  onV (oIndexAddr Try.prog 58 x9 x10) fun v1 =>
  onV (gLoad Try.prog 59 v1 H) fun v2 =>
  onV (gLoad Try.prog 62 x13 H) fun v3 =>
  onCall 2 call (.func (.func 79) #[] #[]) [v3] H fun v4 H5 =>
  onVH (gBuildSlice Try.prog 59 1 [(0, v4)] H5) fun v6 H7 =>
  onVH (gAppend Try.prog 59 59 v2 v6 H7) fun v8 H9 =>
  onV (oIndexAddr Try.prog 58 x9 x10) fun v10 =>
  onH (gStore Try.prog 59 v10 v8 H9) fun H11 =>
  onV ((oBin Try.prog .add 3 x46 (.int .i64 1)).filter closed) fun v12 =>
  (sg_l12 x1 x5 x9 x10 x30 x31 x32 x44 x45 v12 H11)
theorem f26_r14_eq (call : Handle) (k : Nat) (ag_l8 : GA → GH → M (Value × GH)) (sg_l8 : Value → Value → Value → Value → Value → Value → GH → M (Value × GH)) (h_l8 : f26_l8_P ag_l8 sg_l8) (ag_l12 : GA → GH → M (Value × GH)) (sg_l12 : Value → Value → Value → Value → Value → Value → Value → Value → Value → Value → GH → M (Value × GH)) (h_l12 : f26_l12_P ag_l12 sg_l12) : gCode Try.prog call k (fAt Try.f26 [1,1,1,1,0,1,0,0,1,1,0,0,1,1,1,0,0,1,1,0,0,1]) (FF 96 d) H (hBlock 3 (hSeq (gCode Try.prog call k (fAt Try.f26 [1,1,1,1,0,1,0,0,1,1,0,0,1,1,1,0,0,1,1,1])) (hLoop ag_l12 (hBlock 2 (hBlock 1 (hSeq (gCode Try.prog call k (fAt Try.f26 [1,1,1,1,0,1,0,0,1,1,1])) (hLoop ag_l8 (hBlock 0 (hSeq (gCode Try.prog call k (fAt Try.f26 [1,1,1,1,1])) (hFin Try.prog Try.f26)))))))))) = f26_r14 call k sg_l8 sg_l12 (d 1) (d 5) (d 9) (d 10) (d 13) (d 30) (d 31) (d 32) (d 44) (d 45) (d 46) H := by
  unfold f26_r14
  rw [n26_58]
  rw [s26_19]
  refine onV_c fun v1 => ?_
  refine onV_c fun v2 => ?_
  refine onV_c fun v3 => ?_
  refine onCall_c fun v4 H5 => ?_
  refine onVH_c fun v6 H7 => ?_
  refine onVH_c fun v8 H9 => ?_
  refine onV_c fun v10 => ?_
  refine onH_c fun H11 => ?_
  rw [hBlock_n]
  rw [hSeq_n]
  rw [n26_59]
  rw [s26_20]
  refine onV_c fun v12 => ?_
  rw [hLoop_n]
  rw [show ((FF 96 d) |>.set 50 (d 9) |>.set 51 (d 10) |>.set 52 (d 9) |>.set 53 (d 10) |>.set 54 v1 |>.set 55 v2 |>.set 56 v3 |>.set 57 v4 |>.set 58 v6 |>.set 59 v8 |>.set 60 v10 |>.set 61 v12 |>.set 46 v12) = (FF 96 (gf ((FF 96 d) |>.set 50 (d 9) |>.set 51 (d 10) |>.set 52 (d 9) |>.set 53 (d 10) |>.set 54 v1 |>.set 55 v2 |>.set 56 v3 |>.set 57 v4 |>.set 58 v6 |>.set 59 v8 |>.set 60 v10 |>.set 61 v12 |>.set 46 v12))) from by kernel_rfl]
  exact (f26_l12_at (d := gf ((FF 96 d) |>.set 50 (d 9) |>.set 51 (d 10) |>.set 52 (d 9) |>.set 53 (d 10) |>.set 54 v1 |>.set 55 v2 |>.set 56 v3 |>.set 57 v4 |>.set 58 v6 |>.set 59 v8 |>.set 60 v10 |>.set 61 v12 |>.set 46 v12)) h_l12).trans (by kernel_rfl)
noncomputable def f26_l12b (call : Handle) (k : Nat) (sg_l8 : Value → Value → Value → Value → Value → Value → GH → M (Value × GH)) (sg_l12 : Value → Value → Value → Value → Value → Value → Value → Value → Value → Value → GH → M (Value × GH)) (x1 x5 x9 x10 x30 x31 x32 x44 x45 x46 : Value) (H : GH) : M (Value × GH) :=
  onV ((oBin Try.prog .lss 3 x46 x45).filter closed) fun v1 =>
  onBool (asB v1)
  (onV (oIndexAddr Try.prog 59 x44 x46) fun v2 =>
  onV (gLoad Try.prog 62 v2 H) fun v3 =>
  onH (gStore Try.prog 62 (.pointer (some ⟨H.n, 0, none⟩)) v3 (GH.push H (.row [(.int .u8 0), (.bool false), (.slice none 0 0), (.slice none 0 0)] 62 false))) fun H4 =>
  (f26_r14 call k (sg_l8) (sg_l12) x1 x5 x9 x10 (.pointer (some ⟨H.n, 0, none⟩)) x30 x31 x32 x44 x45 x46 H4))
  (onV ((oBin Try.prog .add 3 x32 (.int .i64 1)).filter closed) fun v5 =>
  (sg_l8 x1 x5 x9 x30 x31 v5 H))
theorem f26_l12b_eq (call : Handle) (k : Nat) (ag_l8 : GA → GH → M (Value × GH)) (sg_l8 : Value → Value → Value → Value → Value → Value → GH → M (Value × GH)) (h_l8 : f26_l8_P ag_l8 sg_l8) (ag_l12 : GA → GH → M (Value × GH)) (sg_l12 : Value → Value → Value → Value → Value → Value → Value → Value → Value → Value → GH → M (Value × GH)) (h_l12 : f26_l12_P ag_l12 sg_l12) : gCode Try.prog call k (fAt Try.f26 [1,1,1,1,0,1,0,0,1,1,0,0,1,1,1,0,0]) (FF 96 d) H (hLoop ag_l12 (hBlock 2 (hBlock 1 (hSeq (gCode Try.prog call k (fAt Try.f26 [1,1,1,1,0,1,0,0,1,1,1])) (hLoop ag_l8 (hBlock 0 (hSeq (gCode Try.prog call k (fAt Try.f26 [1,1,1,1,1])) (hFin Try.prog Try.f26)))))))) = f26_l12b call k sg_l8 sg_l12 (d 1) (d 5) (d 9) (d 10) (d 30) (d 31) (d 32) (d 44) (d 45) (d 46) H := by
  unfold f26_l12b
  rw [n26_43]
  rw [n26_44]
  rw [s26_15]
  refine onV_c fun v1 => ?_
  rw [hSeq_n]
  rw [n26_45]
  rw [n26_46]
  refine onBool_cc (by kernel_rfl) ?_ ?_
  · rw [n26_47]
    rw [hSeq_n]
    rw [n26_48]
    rw [n26_49]
    rw [n26_50]
    rw [n26_51]
    rw [s26_16]
    refine onV_c fun v2 => ?_
    refine onV_c fun v3 => ?_
    refine onH_c fun H4 => ?_
    rw [hSeq_n]
    rw [show ((FF 96 d) |>.set 47 v1 |>.set 48 v2 |>.set 49 v3 |>.set 13 (.pointer (some ⟨H.n, 0, none⟩))) = (FF 96 (gf ((FF 96 d) |>.set 47 v1 |>.set 48 v2 |>.set 49 v3 |>.set 13 (.pointer (some ⟨H.n, 0, none⟩))))) from by kernel_rfl]
    exact (f26_r14_eq (d := gf ((FF 96 d) |>.set 47 v1 |>.set 48 v2 |>.set 49 v3 |>.set 13 (.pointer (some ⟨H.n, 0, none⟩)))) call k ag_l8 sg_l8 h_l8 ag_l12 sg_l12 h_l12).trans (by kernel_rfl)
  · rw [n26_52]
    rw [hSeq_e, hLoop_e, hBlock_hit]
    rw [hBlock_n]
    rw [hSeq_n]
    rw [n26_53]
    rw [s26_17]
    refine onV_c fun v5 => ?_
    rw [hLoop_n]
    rw [show ((FF 96 d) |>.set 47 v1 |>.set 62 v5 |>.set 32 v5) = (FF 96 (gf ((FF 96 d) |>.set 47 v1 |>.set 62 v5 |>.set 32 v5))) from by kernel_rfl]
    exact (f26_l8_at (d := gf ((FF 96 d) |>.set 47 v1 |>.set 62 v5 |>.set 32 v5)) h_l8).trans (by kernel_rfl)
noncomputable def f26_l12 (call : Handle) (k : Nat) (sg_l8 : Value → Value → Value → Value → Value → Value → GH → M (Value × GH)) : Nat → Value → Value → Value → Value → Value → Value → Value → Value → Value → Value → GH → M (Value × GH)
  | 0, _, _, _, _, _, _, _, _, _, _, _ => none
  | r + 1, x1, x5, x9, x10, x30, x31, x32, x44, x45, x46, H => f26_l12b call k sg_l8 (f26_l12 call k sg_l8 r) x1 x5 x9 x10 x30 x31 x32 x44 x45 x46 H
theorem f26_l12_eq (call : Handle) (k : Nat) (ag_l8 : GA → GH → M (Value × GH)) (sg_l8 : Value → Value → Value → Value → Value → Value → GH → M (Value × GH)) (h_l8 : f26_l8_P ag_l8 sg_l8) : ∀ (r : Nat), f26_l12_P (gLoop (gCode Try.prog call k (fAt Try.f26 [1,1,1,1,0,1,0,0,1,1,0,0,1,1,1,0,0])) (hBlock 2 (hBlock 1 (hSeq (gCode Try.prog call k (fAt Try.f26 [1,1,1,1,0,1,0,0,1,1,1])) (hLoop ag_l8 (hBlock 0 (hSeq (gCode Try.prog call k (fAt Try.f26 [1,1,1,1,1])) (hFin Try.prog Try.f26))))))) r) (f26_l12 call k sg_l8 r) := by
  intro r
  induction r with
  | zero => unfold f26_l12_P; intros; rfl
  | succ r ih => unfold f26_l12_P; intros; exact f26_l12b_eq call k ag_l8 sg_l8 h_l8 _ _ ih
noncomputable def f26_l8b (call : Handle) (k : Nat) (sg_l8 : Value → Value → Value → Value → Value → Value → GH → M (Value × GH)) (x1 x5 x9 x30 x31 x32 : Value) (H : GH) : M (Value × GH) :=
  onV ((oBin Try.prog .lss 3 x32 x31).filter closed) fun v1 =>
  onBool (asB v1)
  (onV (oIndexAddr Try.prog 58 x30 x32) fun v2 =>
  onV (gLoad Try.prog 59 v2 H) fun v3 =>
  onV (oLen Try.prog 59 v3) fun v4 =>
  onV ((oBin Try.prog .add 3 v4 (.int .i64 1)).filter closed) fun v5 =>
  onVH (gMakeSlice Try.prog 59 (.int .i64 0) v5 H) fun v6 H7 =>
  onV (oIndexAddr Try.prog 58 x9 x32) fun v8 =>
  onH (gStore Try.prog 59 v8 v6 H7) fun H9 =>
  onV (oLen Try.prog 59 v3) fun v10 =>
  (f26_l12 call k (sg_l8) k x1 x5 x9 x32 x30 x31 x32 v3 v10 (.int .i64 0) H9))
  ((f26_r17 call k x1 x5 x9 H))
theorem f26_l8b_eq (call : Handle) (k : Nat) (ag_l8 : GA → GH → M (Value × GH)) (sg_l8 : Value → Value → Value → Value → Value → Value → GH → M (Value × GH)) (h_l8 : f26_l8_P ag_l8 sg_l8) : gCode Try.prog call k (fAt Try.f26 [1,1,1,1,0,1,0,0]) (FF 96 d) H (hLoop ag_l8 (hBlock 0 (hSeq (gCode Try.prog call k (fAt Try.f26 [1,1,1,1,1])) (hFin Try.prog Try.f26)))) = f26_l8b call k sg_l8 (d 1) (d 5) (d 9) (d 30) (d 31) (d 32) H := by
  unfold f26_l8b
  rw [n26_27]
  rw [n26_28]
  rw [s26_11]
  refine onV_c fun v1 => ?_
  rw [hSeq_n]
  rw [n26_29]
  rw [n26_30]
  refine onBool_cc (by kernel_rfl) ?_ ?_
  · rw [n26_31]
    rw [hSeq_n]
    rw [n26_32]
    rw [n26_33]
    rw [n26_34]
    rw [n26_35]
    rw [s26_12]
    refine onV_c fun v2 => ?_
    refine onV_c fun v3 => ?_
    rw [hSeq_n]
    rw [n26_36]
    rw [n26_37]
    rw [s26_13]
    refine onV_c fun v4 => ?_
    refine onV_c fun v5 => ?_
    refine onVH_c fun v6 H7 => ?_
    refine onV_c fun v8 => ?_
    refine onH_c fun H9 => ?_
    rw [hSeq_n]
    rw [n26_38]
    rw [n26_39]
    rw [s26_14]
    refine onV_c fun v10 => ?_
    rw [hSeq_n]
    rw [n26_40]
    rw [n26_41]
    rw [show ((FF 96 d) |>.set 33 v1 |>.set 34 (d 32) |>.set 35 v2 |>.set 36 v3 |>.set 10 (d 32) |>.set 11 v3 |>.set 37 (d 9) |>.set 38 (d 32) |>.set 39 v3 |>.set 40 v4 |>.set 41 v5 |>.set 42 v6 |>.set 43 v8 |>.set 44 v3 |>.set 45 v10 |>.set 46 (.int .i64 0)) = (FF 96 (gf ((FF 96 d) |>.set 33 v1 |>.set 34 (d 32) |>.set 35 v2 |>.set 36 v3 |>.set 10 (d 32) |>.set 11 v3 |>.set 37 (d 9) |>.set 38 (d 32) |>.set 39 v3 |>.set 40 v4 |>.set 41 v5 |>.set 42 v6 |>.set 43 v8 |>.set 44 v3 |>.set 45 v10 |>.set 46 (.int .i64 0)))) from by kernel_rfl]
    exact (f26_l12_at (d := gf ((FF 96 d) |>.set 33 v1 |>.set 34 (d 32) |>.set 35 v2 |>.set 36 v3 |>.set 10 (d 32) |>.set 11 v3 |>.set 37 (d 9) |>.set 38 (d 32) |>.set 39 v3 |>.set 40 v4 |>.set 41 v5 |>.set 42 v6 |>.set 43 v8 |>.set 44 v3 |>.set 45 v10 |>.set 46 (.int .i64 0))) (f26_l12_eq call k ag_l8 sg_l8 h_l8 k)).trans (by kernel_rfl)
  · rw [n26_42]
    rw [hSeq_e, hLoop_e, hBlock_hit]
    rw [hSeq_n]
    rw [show ((FF 96 d) |>.set 33 v1) = (FF 96 (gf ((FF 96 d) |>.set 33 v1))) from by kernel_rfl]
    exact (f26_r17_eq (d := gf ((FF 96 d) |>.set 33 v1)) call k).trans (by kernel_rfl)
noncomputable def f26_l8 (call : Handle) (k : Nat) : Nat → Value → Value → Value → Value → Value → Value → GH → M (Value × GH)
  | 0, _, _, _, _, _, _, _ => none
  | r + 1, x1, x5, x9, x30, x31, x32, H => f26_l8b call k (f26_l8 call k r) x1 x5 x9 x30 x31 x32 H
theorem f26_l8_eq (call : Handle) (k : Nat) : ∀ (r : Nat), f26_l8_P (gLoop (gCode Try.prog call k (fAt Try.f26 [1,1,1,1,0,1,0,0])) (hBlock 0 (hSeq (gCode Try.prog call k (fAt Try.f26 [1,1,1,1,1])) (hFin Try.prog Try.f26))) r) (f26_l8 call k r) := by
  intro r
  induction r with
  | zero => unfold f26_l8_P; intros; rfl
  | succ r ih => unfold f26_l8_P; intros; exact f26_l8b_eq call k _ _ ih
noncomputable def f26_g4_3 (call : Handle) (k : Nat) (x23 : Value) (x0 x1 x5 : Value) (H : GH) : M (Value × GH) :=
 onBool (asB x23)
  (some [((.tuple #[(.slice none 0 0), (.int .i64 1)]), H)])
  (onV ((oBin Try.prog .gtr 5 x1 (.int .u8 6)).filter closed) fun v1 =>
  onBool (asB v1)
  (some [((.tuple #[(.slice none 0 0), (.int .i64 1)]), H)])
  (onV (oLen Try.prog 58 x0) fun v2 =>
  onVH (gMakeSlice Try.prog 58 v2 v2 H) fun v3 H4 =>
  onV (oLen Try.prog 58 x0) fun v5 =>
  (f26_l8 call k k x1 x5 v3 x0 v5 (.int .i64 0) H4)))
theorem f26_g4_3_true (call : Handle) (k : Nat) : gOps Try.prog 0 call (opsAt (fAt Try.f26 [1,1,0,0])) ((opsAt (fAt Try.f26 [1,1,0,0])).drop 3) ((FF 96 d) |>.set 23 (.bool true)) H ((hSeq (gCode Try.prog call k (fAt Try.f26 [1,1,0,1])) (hSeq (gCode Try.prog call k (fAt Try.f26 [1,1,1])) (hFin Try.prog Try.f26))) .normal) =
  some [((.tuple #[(.slice none 0 0), (.int .i64 1)]), H)] := by
  rw [s26_5]
  rw [hSeq_n]
  rw [n26_15]
  refine (onBool_tt (by kernel_rfl)).trans ?_
  rw [n26_16]
  rw [n26_17]
  rw [s26_6]
  rw [hSeq_n]
  rw [n26_18]
  rw [hSeq_r]
  kernel_rfl
theorem f26_g4_3_false (call : Handle) (k : Nat) : gOps Try.prog 0 call (opsAt (fAt Try.f26 [1,1,0,0])) ((opsAt (fAt Try.f26 [1,1,0,0])).drop 3) ((FF 96 d) |>.set 23 (.bool false)) H ((hSeq (gCode Try.prog call k (fAt Try.f26 [1,1,0,1])) (hSeq (gCode Try.prog call k (fAt Try.f26 [1,1,1])) (hFin Try.prog Try.f26))) .normal) =
  onV ((oBin Try.prog .gtr 5 (d 1) (.int .u8 6)).filter closed) fun v1 =>
  onBool (asB v1)
  (some [((.tuple #[(.slice none 0 0), (.int .i64 1)]), H)])
  (onV (oLen Try.prog 58 (d 0)) fun v2 =>
  onVH (gMakeSlice Try.prog 58 v2 v2 H) fun v3 H4 =>
  onV (oLen Try.prog 58 (d 0)) fun v5 =>
  (f26_l8 call k k (d 1) (d 5) v3 (d 0) v5 (.int .i64 0) H4)) := by
  rw [s26_7]
  refine onV_c fun v1 => ?_
  rw [hSeq_n]
  rw [n26_15]
  refine onBool_cc (by kernel_rfl) ?_ ?_
  · rw [n26_16]
    rw [n26_17]
    rw [s26_8]
    rw [hSeq_n]
    rw [n26_18]
    rw [hSeq_r]
    kernel_rfl
  · rw [n26_19]
    rw [hSeq_n]
    rw [n26_20]
    rw [n26_21]
    rw [s26_9]
    refine onV_c fun v2 => ?_
    refine onVH_c fun v3 H4 => ?_
    rw [hSeq_n]
    rw [n26_22]
    rw [n26_23]
    rw [n26_24]
    rw [s26_10]
    refine onV_c fun v5 => ?_
    rw [hSeq_n]
    rw [n26_25]
    rw [n26_26]
    rw [show ((FF 96 d) |>.set 23 (.bool false) |>.set 24 (d 1) |>.set 25 v1 |>.set 26 v1 |>.set 27 (d 0) |>.set 28 v2 |>.set 29 v3 |>.set 9 v3 |>.set 30 (d 0) |>.set 31 v5 |>.set 32 (.int .i64 0)) = (FF 96 (gf ((FF 96 d) |>.set 23 (.bool false) |>.set 24 (d 1) |>.set 25 v1 |>.set 26 v1 |>.set 27 (d 0) |>.set 28 v2 |>.set 29 v3 |>.set 9 v3 |>.set 30 (d 0) |>.set 31 v5 |>.set 32 (.int .i64 0)))) from by kernel_rfl]
    exact (f26_l8_at (d := gf ((FF 96 d) |>.set 23 (.bool false) |>.set 24 (d 1) |>.set 25 v1 |>.set 26 v1 |>.set 27 (d 0) |>.set 28 v2 |>.set 29 v3 |>.set 9 v3 |>.set 30 (d 0) |>.set 31 v5 |>.set 32 (.int .i64 0))) (f26_l8_eq call k k)).trans (by kernel_rfl)
theorem f26_g4_3_eq (call : Handle) (k : Nat) : onGrd true xg (gOps Try.prog 0 call (opsAt (fAt Try.f26 [1,1,0,0])) ((opsAt (fAt Try.f26 [1,1,0,0])).drop 3) ((FF 96 d) |>.set 23 xg) H ((hSeq (gCode Try.prog call k (fAt Try.f26 [1,1,0,1])) (hSeq (gCode Try.prog call k (fAt Try.f26 [1,1,1])) (hFin Try.prog Try.f26))) .normal)) =
  f26_g4_3 call k xg (d 0) (d 1) (d 5) H := by
  cases xg with
  | bool b => cases b with
    | true => exact onGrd_b.trans (f26_g4_3_true call k)
    | false => exact onGrd_b.trans (f26_g4_3_false call k)
  | _ => kernel_rfl
noncomputable def f26_sh (call : Handle) (k : Nat) (p0 p1 p2 : Value) (H : GH) : M (Value × GH) :=
  onCall 0 call (.func (.func 25) #[] #[]) [p0] (GH.push H (.row (Value.cells p2).toList 62 false)) fun v1 H2 =>
  onV ((oBin Try.prog .neq 27 v1 (.int .i64 0)).filter closed) fun v3 =>
  onBool (asB v3)
  (some [((.tuple #[(.slice none 0 0), v1]), H2)])
  (onV ((oBin Try.prog .lss 5 p1 (.int .u8 1)).filter closed) fun v4 =>
  (f26_g4_3 call k v4 p0 p1 (.pointer (some ⟨H.n, 0, none⟩)) H2))
theorem f26_run (call : Handle) (k : Nat) (p0 p1 p2 : Value) (H : GH) : gCode Try.prog call k (fAt Try.f26 []) ((FF 96 fun _ => undef) |>.set 0 p0 |>.set 1 p1 |>.set 2 p2) H (hFin Try.prog Try.f26) = f26_sh call k p0 p1 p2 H := by
  unfold f26_sh
  rw [n26_0]
  rw [n26_1]
  rw [s26_0]
  rw [hSeq_n]
  rw [n26_2]
  rw [n26_3]
  rw [n26_4]
  rw [s26_1]
  refine onCall_c fun v1 H2 => ?_
  rw [hSeq_n]
  rw [n26_5]
  rw [n26_6]
  rw [s26_2]
  refine onV_c fun v3 => ?_
  rw [hSeq_n]
  rw [n26_7]
  refine onBool_cc (by kernel_rfl) ?_ ?_
  · rw [n26_8]
    rw [n26_9]
    rw [s26_3]
    rw [hSeq_n]
    rw [n26_10]
    rw [hSeq_r]
    kernel_rfl
  · rw [n26_11]
    rw [hSeq_n]
    rw [n26_12]
    rw [n26_13]
    rw [n26_14]
    rw [gOps_split 0 3, s26_4]
    refine onV_c fun v4 => ?_
    rw [show ((FF 96 fun _ => undef) |>.set 0 p0 |>.set 1 p1 |>.set 2 p2 |>.set 5 (.pointer (some ⟨H.n, 0, none⟩)) |>.set 6 (.slice none 0 0) |>.set 7 (.int .i64 0) |>.set 16 p0 |>.set 17 v1 |>.set 8 v1 |>.set 18 v1 |>.set 19 v3 |>.set 21 p1 |>.set 22 v4 |>.set 23 v4) = ((FF 96 (gf ((FF 96 fun _ => undef) |>.set 0 p0 |>.set 1 p1 |>.set 2 p2 |>.set 5 (.pointer (some ⟨H.n, 0, none⟩)) |>.set 6 (.slice none 0 0) |>.set 7 (.int .i64 0) |>.set 16 p0 |>.set 17 v1 |>.set 8 v1 |>.set 18 v1 |>.set 19 v3 |>.set 21 p1 |>.set 22 v4 |>.set 23 v4))) |>.set 23 v4) from by kernel_rfl]
    exact (f26_g4_3_eq (d := gf ((FF 96 fun _ => undef) |>.set 0 p0 |>.set 1 p1 |>.set 2 p2 |>.set 5 (.pointer (some ⟨H.n, 0, none⟩)) |>.set 6 (.slice none 0 0) |>.set 7 (.int .i64 0) |>.set 16 p0 |>.set 17 v1 |>.set 8 v1 |>.set 18 v1 |>.set 19 v3 |>.set 21 p1 |>.set 22 v4 |>.set 23 v4)) call k).trans (by kernel_rfl)
theorem f26_eq (call : Handle) (k : Nat) (p0 p1 p2 : Value) (H : GH) : gFunc Try.prog call k Try.f26 [p0, p1, p2] H = f26_sh call k p0 p1 p2 H :=
  Eq.trans (by kernel_rfl) (f26_run call k p0 p1 p2 H)
end
end Go.Proofs.Ythicilkmjamefaa
