/- PRINTED by sh.py: shallow forms of functions of the program, each proved equal to what the ghost machine makes of its code. -/
import Derived.Test.YthicilkmjamefaaGkTop
import Derived.Test.YthicilkmjamefaaProg
namespace Go.Proofs.Ythicilkmjamefaa
open Go.Gh
set_option linter.unusedVariables false
set_option linter.unusedSimpArgs false
set_option maxRecDepth 100000
section
variable {β : Type} {call : Handle} {k : Nat} {a : GA} {K : Kont β} {K' : GA → GH → M β}
variable {d : Nat → Value} {xg : Value}
variable {p0 : Value}
variable {v1 v2 v3 v4 v5 v6 v7 v8 v9 v11 : Value}
variable {H H4 H10 : GH}
theorem n23_0 : gCode Try.prog call k (fAt Try.f23 []) a H K = gCode Try.prog call k (fAt Try.f23 [0]) a H (hSeq (gCode Try.prog call k (fAt Try.f23 [1])) K) := at_seq (by kernel_rfl)
theorem n23_1 : gCode Try.prog call k (fAt Try.f23 [0]) a H K = gOps Try.prog 0 call (opsAt (fAt Try.f23 [0])) ((opsAt (fAt Try.f23 [0])).drop 0) a H (K .normal) := at_region (by kernel_rfl)
theorem n23_2 : gCode Try.prog call k (fAt Try.f23 [1]) a H K = gCode Try.prog call k (fAt Try.f23 [1,0]) a H (hSeq (gCode Try.prog call k (fAt Try.f23 [1,1])) K) := at_seq (by kernel_rfl)
theorem n23_3 : gCode Try.prog call k (fAt Try.f23 [1,0]) a H K = gCode Try.prog call k (fAt Try.f23 [1,0,0]) a H (hSeq (gCode Try.prog call k (fAt Try.f23 [1,0,1])) K) := at_seq (by kernel_rfl)
theorem n23_4 : gCode Try.prog call k (fAt Try.f23 [1,0,0]) a H K = gOps Try.prog 0 call (opsAt (fAt Try.f23 [1,0,0])) ((opsAt (fAt Try.f23 [1,0,0])).drop 0) a H (K .normal) := at_region (by kernel_rfl)
theorem n23_5 : gCode Try.prog call k (fAt Try.f23 [1,0,1]) a H K = onBool (asB (GA.eval a (.tmp 20))) (gCode Try.prog call k (fAt Try.f23 [1,0,1,0]) a H K) (gCode Try.prog call k (fAt Try.f23 [1,0,1,1]) a H K) := at_cond (by kernel_rfl)
theorem n23_6 : gCode Try.prog call k (fAt Try.f23 [1,0,1,0]) a H K = gCode Try.prog call k (fAt Try.f23 [1,0,1,0,0]) a H (hSeq (gCode Try.prog call k (fAt Try.f23 [1,0,1,0,1])) K) := at_seq (by kernel_rfl)
theorem n23_7 : gCode Try.prog call k (fAt Try.f23 [1,0,1,0,0]) a H K = gOps Try.prog 0 call (opsAt (fAt Try.f23 [1,0,1,0,0])) ((opsAt (fAt Try.f23 [1,0,1,0,0])).drop 0) a H (K .normal) := at_region (by kernel_rfl)
theorem n23_8 : gCode Try.prog call k (fAt Try.f23 [1,0,1,0,1]) a H K = K .ret a H := at_ret (by kernel_rfl)
theorem n23_9 : gCode Try.prog call k (fAt Try.f23 [1,0,1,1]) a H K = K .normal a H := at_skip (by kernel_rfl)
theorem n23_10 : gCode Try.prog call k (fAt Try.f23 [1,1]) a H K = gCode Try.prog call k (fAt Try.f23 [1,1,0]) a H (hSeq (gCode Try.prog call k (fAt Try.f23 [1,1,1])) K) := at_seq (by kernel_rfl)
theorem n23_11 : gCode Try.prog call k (fAt Try.f23 [1,1,0]) a H K = gOps Try.prog 0 call (opsAt (fAt Try.f23 [1,1,0])) ((opsAt (fAt Try.f23 [1,1,0])).drop 0) a H (K .normal) := at_region (by kernel_rfl)
theorem n23_12 : gCode Try.prog call k (fAt Try.f23 [1,1,1]) a H K = gCode Try.prog call k (fAt Try.f23 [1,1,1,0]) a H (hSeq (gCode Try.prog call k (fAt Try.f23 [1,1,1,1])) K) := at_seq (by kernel_rfl)
theorem n23_13 : gCode Try.prog call k (fAt Try.f23 [1,1,1,0]) a H K = gCode Try.prog call k (fAt Try.f23 [1,1,1,0,0]) a H (hSeq (gCode Try.prog call k (fAt Try.f23 [1,1,1,0,1])) K) := at_seq (by kernel_rfl)
theorem n23_14 : gCode Try.prog call k (fAt Try.f23 [1,1,1,0,0]) a H K = gOps Try.prog 0 call (opsAt (fAt Try.f23 [1,1,1,0,0])) ((opsAt (fAt Try.f23 [1,1,1,0,0])).drop 0) a H (K .normal) := at_region (by kernel_rfl)
theorem n23_15 : gCode Try.prog call k (fAt Try.f23 [1,1,1,0,1]) a H K = gCode Try.prog call k (fAt Try.f23 [1,1,1,0,1,0]) a H (hBlock 0 K) := at_block (by kernel_rfl)
theorem n23_16 : gCode Try.prog call k (fAt Try.f23 [1,1,1,0,1,0]) a H K = gLoop (gCode Try.prog call k (fAt Try.f23 [1,1,1,0,1,0,0])) K k a H := at_loop (by kernel_rfl)
theorem n23_17 : gCode Try.prog call k (fAt Try.f23 [1,1,1,0,1,0,0]) a H K = gCode Try.prog call k (fAt Try.f23 [1,1,1,0,1,0,0,0]) a H (hSeq (gCode Try.prog call k (fAt Try.f23 [1,1,1,0,1,0,0,1])) K) := at_seq (by kernel_rfl)
theorem n23_18 : gCode Try.prog call k (fAt Try.f23 [1,1,1,0,1,0,0,0]) a H K = gCode Try.prog call k (fAt Try.f23 [1,1,1,0,1,0,0,0,0]) a H (hSeq (gCode Try.prog call k (fAt Try.f23 [1,1,1,0,1,0,0,0,1])) K) := at_seq (by kernel_rfl)
theorem n23_19 : gCode Try.prog call k (fAt Try.f23 [1,1,1,0,1,0,0,0,0]) a H K = gOps Try.prog 0 call (opsAt (fAt Try.f23 [1,1,1,0,1,0,0,0,0])) ((opsAt (fAt Try.f23 [1,1,1,0,1,0,0,0,0])).drop 0) a H (K .normal) := at_region (by kernel_rfl)
theorem n23_20 : gCode Try.prog call k (fAt Try.f23 [1,1,1,0,1,0,0,0,1]) a H K = onBool (asB (GA.eval a (.tmp 22))) (gCode Try.prog call k (fAt Try.f23 [1,1,1,0,1,0,0,0,1,0]) a H K) (gCode Try.prog call k (fAt Try.f23 [1,1,1,0,1,0,0,0,1,1]) a H K) := at_cond (by kernel_rfl)
theorem n23_21 : gCode Try.prog call k (fAt Try.f23 [1,1,1,0,1,0,0,0,1,0]) a H K = K .normal a H := at_skip (by kernel_rfl)
theorem n23_22 : gCode Try.prog call k (fAt Try.f23 [1,1,1,0,1,0,0,1]) a H K = gCode Try.prog call k (fAt Try.f23 [1,1,1,0,1,0,0,1,0]) a H (hSeq (gCode Try.prog call k (fAt Try.f23 [1,1,1,0,1,0,0,1,1])) K) := at_seq (by kernel_rfl)
theorem n23_23 : gCode Try.prog call k (fAt Try.f23 [1,1,1,0,1,0,0,1,0]) a H K = gCode Try.prog call k (fAt Try.f23 [1,1,1,0,1,0,0,1,0,0]) a H (hBlock 1 K) := at_block (by kernel_rfl)
theorem n23_24 : gCode Try.prog call k (fAt Try.f23 [1,1,1,0,1,0,0,1,0,0]) a H K = gCode Try.prog call k (fAt Try.f23 [1,1,1,0,1,0,0,1,0,0,0]) a H (hSeq (gCode Try.prog call k (fAt Try.f23 [1,1,1,0,1,0,0,1,0,0,1])) K) := at_seq (by kernel_rfl)
theorem n23_25 : gCode Try.prog call k (fAt Try.f23 [1,1,1,0,1,0,0,1,0,0,0]) a H K = gOps Try.prog 0 call (opsAt (fAt Try.f23 [1,1,1,0,1,0,0,1,0,0,0])) ((opsAt (fAt Try.f23 [1,1,1,0,1,0,0,1,0,0,0])).drop 0) a H (K .normal) := at_region (by kernel_rfl)
theorem n23_26 : gCode Try.prog call k (fAt Try.f23 [1,1,1,0,1,0,0,1,0,0,1]) a H K = gCode Try.prog call k (fAt Try.f23 [1,1,1,0,1,0,0,1,0,0,1,0]) a H (hBlock 2 K) := at_block (by kernel_rfl)
theorem n23_27 : gCode Try.prog call k (fAt Try.f23 [1,1,1,0,1,0,0,1,0,0,1,0]) a H K = gLoop (gCode Try.prog call k (fAt Try.f23 [1,1,1,0,1,0,0,1,0,0,1,0,0])) K k a H := at_loop (by kernel_rfl)
theorem n23_28 : gCode Try.prog call k (fAt Try.f23 [1,1,1,0,1,0,0,0,1,1]) a H K = K (.exit 0) a H := at_exit (by kernel_rfl)
theorem n23_29 : gCode Try.prog call k (fAt Try.f23 [1,1,1,0,1,0,0,1,0,0,1,0,0]) a H K = gCode Try.prog call k (fAt Try.f23 [1,1,1,0,1,0,0,1,0,0,1,0,0,0]) a H (hSeq (gCode Try.prog call k (fAt Try.f23 [1,1,1,0,1,0,0,1,0,0,1,0,0,1])) K) := at_seq (by kernel_rfl)
theorem n23_30 : gCode Try.prog call k (fAt Try.f23 [1,1,1,0,1,0,0,1,0,0,1,0,0,0]) a H K = gCode Try.prog call k (fAt Try.f23 [1,1,1,0,1,0,0,1,0,0,1,0,0,0,0]) a H (hSeq (gCode Try.prog call k (fAt Try.f23 [1,1,1,0,1,0,0,1,0,0,1,0,0,0,1])) K) := at_seq (by kernel_rfl)
theorem n23_31 : gCode Try.prog call k (fAt Try.f23 [1,1,1,0,1,0,0,1,0,0,1,0,0,0,0]) a H K = gOps Try.prog 0 call (opsAt (fAt Try.f23 [1,1,1,0,1,0,0,1,0,0,1,0,0,0,0])) ((opsAt (fAt Try.f23 [1,1,1,0,1,0,0,1,0,0,1,0,0,0,0])).drop 0) a H (K .normal) := at_region (by kernel_rfl)
theorem n23_32 : gCode Try.prog call k (fAt Try.f23 [1,1,1,0,1,0,0,1,0,0,1,0,0,0,1]) a H K = onBool (asB (GA.eval a (.tmp 31))) (gCode Try.prog call k (fAt Try.f23 [1,1,1,0,1,0,0,1,0,0,1,0,0,0,1,0]) a H K) (gCode Try.prog call k (fAt Try.f23 [1,1,1,0,1,0,0,1,0,0,1,0,0,0,1,1]) a H K) := at_cond (by kernel_rfl)
theorem n23_33 : gCode Try.prog call k (fAt Try.f23 [1,1,1,0,1,0,0,1,0,0,1,0,0,0,1,0]) a H K = K .normal a H := at_skip (by kernel_rfl)
theorem n23_34 : gCode Try.prog call k (fAt Try.f23 [1,1,1,0,1,0,0,1,0,0,1,0,0,1]) a H K = gCode Try.prog call k (fAt Try.f23 [1,1,1,0,1,0,0,1,0,0,1,0,0,1,0]) a H (hSeq (gCode Try.prog call k (fAt Try.f23 [1,1,1,0,1,0,0,1,0,0,1,0,0,1,1])) K) := at_seq (by kernel_rfl)
theorem n23_35 : gCode Try.prog call k (fAt Try.f23 [1,1,1,0,1,0,0,1,0,0,1,0,0,1,0]) a H K = gCode Try.prog call k (fAt Try.f23 [1,1,1,0,1,0,0,1,0,0,1,0,0,1,0,0]) a H (hBlock 3 K) := at_block (by kernel_rfl)
theorem n23_36 : gCode Try.prog call k (fAt Try.f23 [1,1,1,0,1,0,0,1,0,0,1,0,0,1,0,0]) a H K = gCode Try.prog call k (fAt Try.f23 [1,1,1,0,1,0,0,1,0,0,1,0,0,1,0,0,0]) a H (hSeq (gCode Try.prog call k (fAt Try.f23 [1,1,1,0,1,0,0,1,0,0,1,0,0,1,0,0,1])) K) := at_seq (by kernel_rfl)
theorem n23_37 : gCode Try.prog call k (fAt Try.f23 [1,1,1,0,1,0,0,1,0,0,1,0,0,0,1,1]) a H K = K (.exit 2) a H := at_exit (by kernel_rfl)
theorem n23_38 : gCode Try.prog call k (fAt Try.f23 [1,1,1,0,1,0,0,1,1]) a H K = gOps Try.prog 0 call (opsAt (fAt Try.f23 [1,1,1,0,1,0,0,1,1])) ((opsAt (fAt Try.f23 [1,1,1,0,1,0,0,1,1])).drop 0) a H (K .normal) := at_region (by kernel_rfl)
theorem n23_39 : gCode Try.prog call k (fAt Try.f23 [1,1,1,1]) a H K = gCode Try.prog call k (fAt Try.f23 [1,1,1,1,0]) a H (hSeq (gCode Try.prog call k (fAt Try.f23 [1,1,1,1,1])) K) := at_seq (by kernel_rfl)
theorem n23_40 : gCode Try.prog call k (fAt Try.f23 [1,1,1,1,0]) a H K = gCode Try.prog call k (fAt Try.f23 [1,1,1,1,0,0]) a H (hSeq (gCode Try.prog call k (fAt Try.f23 [1,1,1,1,0,1])) K) := at_seq (by kernel_rfl)
theorem n23_41 : gCode Try.prog call k (fAt Try.f23 [1,1,1,1,0,0]) a H K = gOps Try.prog 0 call (opsAt (fAt Try.f23 [1,1,1,1,0,0])) ((opsAt (fAt Try.f23 [1,1,1,1,0,0])).drop 0) a H (K .normal) := at_region (by kernel_rfl)
theorem n23_42 : gCode Try.prog call k (fAt Try.f23 [1,1,1,1,0,1]) a H K = gCode Try.prog call k (fAt Try.f23 [1,1,1,1,0,1,0]) a H (hBlock 8 K) := at_block (by kernel_rfl)
theorem n23_43 : gCode Try.prog call k (fAt Try.f23 [1,1,1,1,0,1,0]) a H K = gLoop (gCode Try.prog call k (fAt Try.f23 [1,1,1,1,0,1,0,0])) K k a H := at_loop (by kernel_rfl)
theorem n23_44 : gCode Try.prog call k (fAt Try.f23 [1,1,1,0,1,0,0,1,0,0,1,0,0,1,0,0,0]) a H K = gOps Try.prog 0 call (opsAt (fAt Try.f23 [1,1,1,0,1,0,0,1,0,0,1,0,0,1,0,0,0])) ((opsAt (fAt Try.f23 [1,1,1,0,1,0,0,1,0,0,1,0,0,1,0,0,0])).drop 0) a H (K .normal) := at_region (by kernel_rfl)
theorem n23_45 : gCode Try.prog call k (fAt Try.f23 [1,1,1,0,1,0,0,1,0,0,1,0,0,1,0,0,1]) a H K = gCode Try.prog call k (fAt Try.f23 [1,1,1,0,1,0,0,1,0,0,1,0,0,1,0,0,1,0]) a H (hSeq (gCode Try.prog call k (fAt Try.f23 [1,1,1,0,1,0,0,1,0,0,1,0,0,1,0,0,1,1])) K) := at_seq (by kernel_rfl)
theorem n23_46 : gCode Try.prog call k (fAt Try.f23 [1,1,1,0,1,0,0,1,0,0,1,0,0,1,0,0,1,0]) a H K = gCode Try.prog call k (fAt Try.f23 [1,1,1,0,1,0,0,1,0,0,1,0,0,1,0,0,1,0,0]) a H (hSeq (gCode Try.prog call k (fAt Try.f23 [1,1,1,0,1,0,0,1,0,0,1,0,0,1,0,0,1,0,1])) K) := at_seq (by kernel_rfl)
theorem n23_47 : gCode Try.prog call k (fAt Try.f23 [1,1,1,1,0,1,0,0]) a H K = gCode Try.prog call k (fAt Try.f23 [1,1,1,1,0,1,0,0,0]) a H (hSeq (gCode Try.prog call k (fAt Try.f23 [1,1,1,1,0,1,0,0,1])) K) := at_seq (by kernel_rfl)
theorem n23_48 : gCode Try.prog call k (fAt Try.f23 [1,1,1,1,0,1,0,0,0]) a H K = gCode Try.prog call k (fAt Try.f23 [1,1,1,1,0,1,0,0,0,0]) a H (hSeq (gCode Try.prog call k (fAt Try.f23 [1,1,1,1,0,1,0,0,0,1])) K) := at_seq (by kernel_rfl)
theorem n23_49 : gCode Try.prog call k (fAt Try.f23 [1,1,1,1,0,1,0,0,0,0]) a H K = gOps Try.prog 0 call (opsAt (fAt Try.f23 [1,1,1,1,0,1,0,0,0,0])) ((opsAt (fAt Try.f23 [1,1,1,1,0,1,0,0,0,0])).drop 0) a H (K .normal) := at_region (by kernel_rfl)
theorem n23_50 : gCode Try.prog call k (fAt Try.f23 [1,1,1,1,0,1,0,0,0,1]) a H K = onBool (asB (GA.eval a (.tmp 130))) (gCode Try.prog call k (fAt Try.f23 [1,1,1,1,0,1,0,0,0,1,0]) a H K) (gCode Try.prog call k (fAt Try.f23 [1,1,1,1,0,1,0,0,0,1,1]) a H K) := at_cond (by kernel_rfl)
theorem n23_51 : gCode Try.prog call k (fAt Try.f23 [1,1,1,1,0,1,0,0,0,1,0]) a H K = K .normal a H := at_skip (by kernel_rfl)
theorem n23_52 : gCode Try.prog call k (fAt Try.f23 [1,1,1,1,0,1,0,0,1]) a H K = gCode Try.prog call k (fAt Try.f23 [1,1,1,1,0,1,0,0,1,0]) a H (hSeq (gCode Try.prog call k (fAt Try.f23 [1,1,1,1,0,1,0,0,1,1])) K) := at_seq (by kernel_rfl)
theorem n23_53 : gCode Try.prog call k (fAt Try.f23 [1,1,1,1,0,1,0,0,1,0]) a H K = gCode Try.prog call k (fAt Try.f23 [1,1,1,1,0,1,0,0,1,0,0]) a H (hBlock 9 K) := at_block (by kernel_rfl)
theorem n23_54 : gCode Try.prog call k (fAt Try.f23 [1,1,1,1,0,1,0,0,1,0,0]) a H K = gCode Try.prog call k (fAt Try.f23 [1,1,1,1,0,1,0,0,1,0,0,0]) a H (hSeq (gCode Try.prog call k (fAt Try.f23 [1,1,1,1,0,1,0,0,1,0,0,1])) K) := at_seq (by kernel_rfl)
theorem n23_55 : gCode Try.prog call k (fAt Try.f23 [1,1,1,1,0,1,0,0,1,0,0,0]) a H K = gOps Try.prog 0 call (opsAt (fAt Try.f23 [1,1,1,1,0,1,0,0,1,0,0,0])) ((opsAt (fAt Try.f23 [1,1,1,1,0,1,0,0,1,0,0,0])).drop 0) a H (K .normal) := at_region (by kernel_rfl)
theorem n23_56 : gCode Try.prog call k (fAt Try.f23 [1,1,1,1,0,1,0,0,1,0,0,1]) a H K = gCode Try.prog call k (fAt Try.f23 [1,1,1,1,0,1,0,0,1,0,0,1,0]) a H (hBlock 10 K) := at_block (by kernel_rfl)
theorem n23_57 : gCode Try.prog call k (fAt Try.f23 [1,1,1,1,0,1,0,0,1,0,0,1,0]) a H K = gLoop (gCode Try.prog call k (fAt Try.f23 [1,1,1,1,0,1,0,0,1,0,0,1,0,0])) K k a H := at_loop (by kernel_rfl)
theorem n23_58 : gCode Try.prog call k (fAt Try.f23 [1,1,1,1,0,1,0,0,0,1,1]) a H K = K (.exit 8) a H := at_exit (by kernel_rfl)
theorem n23_59 : gCode Try.prog call k (fAt Try.f23 [1,1,1,0,1,0,0,1,0,0,1,0,0,1,0,0,1,0,0]) a H K = gOps Try.prog 0 call (opsAt (fAt Try.f23 [1,1,1,0,1,0,0,1,0,0,1,0,0,1,0,0,1,0,0])) ((opsAt (fAt Try.f23 [1,1,1,0,1,0,0,1,0,0,1,0,0,1,0,0,1,0,0])).drop 0) a H (K .normal) := at_region (by kernel_rfl)
theorem n23_60 : gCode Try.prog call k (fAt Try.f23 [1,1,1,1,0,1,0,0,1,0,0,1,0,0]) a H K = gCode Try.prog call k (fAt Try.f23 [1,1,1,1,0,1,0,0,1,0,0,1,0,0,0]) a H (hSeq (gCode Try.prog call k (fAt Try.f23 [1,1,1,1,0,1,0,0,1,0,0,1,0,0,1])) K) := at_seq (by kernel_rfl)
theorem n23_61 : gCode Try.prog call k (fAt Try.f23 [1,1,1,1,0,1,0,0,1,0,0,1,0,0,0]) a H K = gCode Try.prog call k (fAt Try.f23 [1,1,1,1,0,1,0,0,1,0,0,1,0,0,0,0]) a H (hSeq (gCode Try.prog call k (fAt Try.f23 [1,1,1,1,0,1,0,0,1,0,0,1,0,0,0,1])) K) := at_seq (by kernel_rfl)
theorem n23_62 : gCode Try.prog call k (fAt Try.f23 [1,1,1,1,0,1,0,0,1,0,0,1,0,0,0,0]) a H K = gOps Try.prog 0 call (opsAt (fAt Try.f23 [1,1,1,1,0,1,0,0,1,0,0,1,0,0,0,0])) ((opsAt (fAt Try.f23 [1,1,1,1,0,1,0,0,1,0,0,1,0,0,0,0])).drop 0) a H (K .normal) := at_region (by kernel_rfl)
theorem n23_63 : gCode Try.prog call k (fAt Try.f23 [1,1,1,1,0,1,0,0,1,0,0,1,0,0,0,1]) a H K = onBool (asB (GA.eval a (.tmp 135))) (gCode Try.prog call k (fAt Try.f23 [1,1,1,1,0,1,0,0,1,0,0,1,0,0,0,1,0]) a H K) (gCode Try.prog call k (fAt Try.f23 [1,1,1,1,0,1,0,0,1,0,0,1,0,0,0,1,1]) a H K) := at_cond (by kernel_rfl)
theorem n23_64 : gCode Try.prog call k (fAt Try.f23 [1,1,1,1,0,1,0,0,1,0,0,1,0,0,0,1,0]) a H K = K .normal a H := at_skip (by kernel_rfl)
theorem n23_65 : gCode Try.prog call k (fAt Try.f23 [1,1,1,1,0,1,0,0,1,0,0,1,0,0,1]) a H K = gCode Try.prog call k (fAt Try.f23 [1,1,1,1,0,1,0,0,1,0,0,1,0,0,1,0]) a H (hSeq (gCode Try.prog call k (fAt Try.f23 [1,1,1,1,0,1,0,0,1,0,0,1,0,0,1,1])) K) := at_seq (by kernel_rfl)
theorem n23_66 : gCode Try.prog call k (fAt Try.f23 [1,1,1,1,0,1,0,0,1,0,0,1,0,0,1,0]) a H K = gCode Try.prog call k (fAt Try.f23 [1,1,1,1,0,1,0,0,1,0,0,1,0,0,1,0,0]) a H (hBlock 11 K) := at_block (by kernel_rfl)
theorem n23_67 : gCode Try.prog call k (fAt Try.f23 [1,1,1,1,0,1,0,0,1,0,0,1,0,0,1,0,0]) a H K = gCode Try.prog call k (fAt Try.f23 [1,1,1,1,0,1,0,0,1,0,0,1,0,0,1,0,0,0]) a H (hSeq (gCode Try.prog call k (fAt Try.f23 [1,1,1,1,0,1,0,0,1,0,0,1,0,0,1,0,0,1])) K) := at_seq (by kernel_rfl)
theorem n23_68 : gCode Try.prog call k (fAt Try.f23 [1,1,1,1,0,1,0,0,1,0,0,1,0,0,1,0,0,0]) a H K = gOps Try.prog 1 call (opsAt (fAt Try.f23 [1,1,1,1,0,1,0,0,1,0,0,1,0,0,1,0,0,0])) ((opsAt (fAt Try.f23 [1,1,1,1,0,1,0,0,1,0,0,1,0,0,1,0,0,0])).drop 0) a H (K .normal) := at_region (by kernel_rfl)
theorem n23_69 : gCode Try.prog call k (fAt Try.f23 [1,1,1,1,0,1,0,0,1,0,0,1,0,0,1,0,0,1]) a H K = onBool (asB (GA.eval a (.tmp 146))) (gCode Try.prog call k (fAt Try.f23 [1,1,1,1,0,1,0,0,1,0,0,1,0,0,1,0,0,1,0]) a H K) (gCode Try.prog call k (fAt Try.f23 [1,1,1,1,0,1,0,0,1,0,0,1,0,0,1,0,0,1,1]) a H K) := at_cond (by kernel_rfl)
theorem n23_70 : gCode Try.prog call k (fAt Try.f23 [1,1,1,1,0,1,0,0,1,0,0,1,0,0,1,0,0,1,0]) a H K = gCode Try.prog call k (fAt Try.f23 [1,1,1,1,0,1,0,0,1,0,0,1,0,0,1,0,0,1,0,0]) a H (hSeq (gCode Try.prog call k (fAt Try.f23 [1,1,1,1,0,1,0,0,1,0,0,1,0,0,1,0,0,1,0,1])) K) := at_seq (by kernel_rfl)
theorem n23_71 : gCode Try.prog call k (fAt Try.f23 [1,1,1,1,0,1,0,0,1,0,0,1,0,0,1,0,0,1,0,0]) a H K = gOps Try.prog 0 call (opsAt (fAt Try.f23 [1,1,1,1,0,1,0,0,1,0,0,1,0,0,1,0,0,1,0,0])) ((opsAt (fAt Try.f23 [1,1,1,1,0,1,0,0,1,0,0,1,0,0,1,0,0,1,0,0])).drop 0) a H (K .normal) := at_region (by kernel_rfl)
theorem n23_72 : gCode Try.prog call k (fAt Try.f23 [1,1,1,1,0,1,0,0,1,0,0,1,0,0,1,0,0,1,0,1]) a H K = K .ret a H := at_ret (by kernel_rfl)
theorem n23_73 : gCode Try.prog call k (fAt Try.f23 [1,1,1,1,0,1,0,0,1,0,0,1,0,0,1,0,0,1,1]) a H K = K .normal a H := at_skip (by kernel_rfl)
theorem n23_74 : gCode Try.prog call k (fAt Try.f23 [1,1,1,1,0,1,0,0,1,0,0,1,0,0,1,1]) a H K = gOps Try.prog 0 call (opsAt (fAt Try.f23 [1,1,1,1,0,1,0,0,1,0,0,1,0,0,1,1])) ((opsAt (fAt Try.f23 [1,1,1,1,0,1,0,0,1,0,0,1,0,0,1,1])).drop 0) a H (K .normal) := at_region (by kernel_rfl)
theorem n23_75 : gCode Try.prog call k (fAt Try.f23 [1,1,1,1,0,1,0,0,1,0,0,1,0,0,0,1,1]) a H K = K (.exit 10) a H := at_exit (by kernel_rfl)
theorem n23_76 : gCode Try.prog call k (fAt Try.f23 [1,1,1,1,0,1,0,0,1,1]) a H K = gOps Try.prog 0 call (opsAt (fAt Try.f23 [1,1,1,1,0,1,0,0,1,1])) ((opsAt (fAt Try.f23 [1,1,1,1,0,1,0,0,1,1])).drop 0) a H (K .normal) := at_region (by kernel_rfl)
theorem n23_77 : gCode Try.prog call k (fAt Try.f23 [1,1,1,1,1]) a H K = gCode Try.prog call k (fAt Try.f23 [1,1,1,1,1,0]) a H (hSeq (gCode Try.prog call k (fAt Try.f23 [1,1,1,1,1,1])) K) := at_seq (by kernel_rfl)
theorem n23_78 : gCode Try.prog call k (fAt Try.f23 [1,1,1,1,1,0]) a H K = gOps Try.prog 0 call (opsAt (fAt Try.f23 [1,1,1,1,1,0])) ((opsAt (fAt Try.f23 [1,1,1,1,1,0])).drop 0) a H (K .normal) := at_region (by kernel_rfl)
theorem n23_79 : gCode Try.prog call k (fAt Try.f23 [1,1,1,1,1,1]) a H K = gCode Try.prog call k (fAt Try.f23 [1,1,1,1,1,1,0]) a H (hSeq (gCode Try.prog call k (fAt Try.f23 [1,1,1,1,1,1,1])) K) := at_seq (by kernel_rfl)
theorem n23_80 : gCode Try.prog call k (fAt Try.f23 [1,1,1,1,1,1,0]) a H K = gCode Try.prog call k (fAt Try.f23 [1,1,1,1,1,1,0,0]) a H (hSeq (gCode Try.prog call k (fAt Try.f23 [1,1,1,1,1,1,0,1])) K) := at_seq (by kernel_rfl)
theorem n23_81 : gCode Try.prog call k (fAt Try.f23 [1,1,1,1,1,1,0,0]) a H K = gOps Try.prog 0 call (opsAt (fAt Try.f23 [1,1,1,1,1,1,0,0])) ((opsAt (fAt Try.f23 [1,1,1,1,1,1,0,0])).drop 0) a H (K .normal) := at_region (by kernel_rfl)
theorem n23_82 : gCode Try.prog call k (fAt Try.f23 [1,1,1,1,1,1,0,1]) a H K = gCode Try.prog call k (fAt Try.f23 [1,1,1,1,1,1,0,1,0]) a H (hBlock 12 K) := at_block (by kernel_rfl)
theorem n23_83 : gCode Try.prog call k (fAt Try.f23 [1,1,1,1,1,1,0,1,0]) a H K = gLoop (gCode Try.prog call k (fAt Try.f23 [1,1,1,1,1,1,0,1,0,0])) K k a H := at_loop (by kernel_rfl)
theorem n23_84 : gCode Try.prog call k (fAt Try.f23 [1,1,1,0,1,0,0,1,0,0,1,0,0,1,0,0,1,0,1]) a H K = onBool (asB (GA.eval a (.tmp 58))) (gCode Try.prog call k (fAt Try.f23 [1,1,1,0,1,0,0,1,0,0,1,0,0,1,0,0,1,0,1,0]) a H K) (gCode Try.prog call k (fAt Try.f23 [1,1,1,0,1,0,0,1,0,0,1,0,0,1,0,0,1,0,1,1]) a H K) := at_cond (by kernel_rfl)
theorem n23_85 : gCode Try.prog call k (fAt Try.f23 [1,1,1,0,1,0,0,1,0,0,1,0,0,1,0,0,1,0,1,0]) a H K = gCode Try.prog call k (fAt Try.f23 [1,1,1,0,1,0,0,1,0,0,1,0,0,1,0,0,1,0,1,0,0]) a H (hSeq (gCode Try.prog call k (fAt Try.f23 [1,1,1,0,1,0,0,1,0,0,1,0,0,1,0,0,1,0,1,0,1])) K) := at_seq (by kernel_rfl)
theorem n23_86 : gCode Try.prog call k (fAt Try.f23 [1,1,1,0,1,0,0,1,0,0,1,0,0,1,0,0,1,0,1,0,0]) a H K = gOps Try.prog 0 call (opsAt (fAt Try.f23 [1,1,1,0,1,0,0,1,0,0,1,0,0,1,0,0,1,0,1,0,0])) ((opsAt (fAt Try.f23 [1,1,1,0,1,0,0,1,0,0,1,0,0,1,0,0,1,0,1,0,0])).drop 0) a H (K .normal) := at_region (by kernel_rfl)
theorem n23_87 : gCode Try.prog call k (fAt Try.f23 [1,1,1,0,1,0,0,1,0,0,1,0,0,1,0,0,1,0,1,0,1]) a H K = K .ret a H := at_ret (by kernel_rfl)
theorem n23_88 : gCode Try.prog call k (fAt Try.f23 [1,1,1,1,1,1,0,1,0,0]) a H K = gCode Try.prog call k (fAt Try.f23 [1,1,1,1,1,1,0,1,0,0,0]) a H (hSeq (gCode Try.prog call k (fAt Try.f23 [1,1,1,1,1,1,0,1,0,0,1])) K) := at_seq (by kernel_rfl)
theorem n23_89 : gCode Try.prog call k (fAt Try.f23 [1,1,1,1,1,1,0,1,0,0,0]) a H K = gCode Try.prog call k (fAt Try.f23 [1,1,1,1,1,1,0,1,0,0,0,0]) a H (hSeq (gCode Try.prog call k (fAt Try.f23 [1,1,1,1,1,1,0,1,0,0,0,1])) K) := at_seq (by kernel_rfl)
theorem n23_90 : gCode Try.prog call k (fAt Try.f23 [1,1,1,1,1,1,0,1,0,0,0,0]) a H K = gOps Try.prog 0 call (opsAt (fAt Try.f23 [1,1,1,1,1,1,0,1,0,0,0,0])) ((opsAt (fAt Try.f23 [1,1,1,1,1,1,0,1,0,0,0,0])).drop 0) a H (K .normal) := at_region (by kernel_rfl)
theorem n23_91 : gCode Try.prog call k (fAt Try.f23 [1,1,1,1,1,1,0,1,0,0,0,1]) a H K = onBool (asB (GA.eval a (.tmp 147))) (gCode Try.prog call k (fAt Try.f23 [1,1,1,1,1,1,0,1,0,0,0,1,0]) a H K) (gCode Try.prog call k (fAt Try.f23 [1,1,1,1,1,1,0,1,0,0,0,1,1]) a H K) := at_cond (by kernel_rfl)
theorem n23_92 : gCode Try.prog call k (fAt Try.f23 [1,1,1,1,1,1,0,1,0,0,0,1,0]) a H K = K .normal a H := at_skip (by kernel_rfl)
theorem n23_93 : gCode Try.prog call k (fAt Try.f23 [1,1,1,1,1,1,0,1,0,0,1]) a H K = gCode Try.prog call k (fAt Try.f23 [1,1,1,1,1,1,0,1,0,0,1,0]) a H (hBlock 13 K) := at_block (by kernel_rfl)
theorem n23_94 : gCode Try.prog call k (fAt Try.f23 [1,1,1,1,1,1,0,1,0,0,1,0]) a H K = gCode Try.prog call k (fAt Try.f23 [1,1,1,1,1,1,0,1,0,0,1,0,0]) a H (hSeq (gCode Try.prog call k (fAt Try.f23 [1,1,1,1,1,1,0,1,0,0,1,0,1])) K) := at_seq (by kernel_rfl)
theorem n23_95 : gCode Try.prog call k (fAt Try.f23 [1,1,1,1,1,1,0,1,0,0,1,0,0]) a H K = gOps Try.prog 0 call (opsAt (fAt Try.f23 [1,1,1,1,1,1,0,1,0,0,1,0,0])) ((opsAt (fAt Try.f23 [1,1,1,1,1,1,0,1,0,0,1,0,0])).drop 0) a H (K .normal) := at_region (by kernel_rfl)
theorem n23_96 : gCode Try.prog call k (fAt Try.f23 [1,1,1,1,1,1,0,1,0,0,1,0,1]) a H K = gCode Try.prog call k (fAt Try.f23 [1,1,1,1,1,1,0,1,0,0,1,0,1,0]) a H (hSeq (gCode Try.prog call k (fAt Try.f23 [1,1,1,1,1,1,0,1,0,0,1,0,1,1])) K) := at_seq (by kernel_rfl)
theorem n23_97 : gCode Try.prog call k (fAt Try.f23 [1,1,1,1,1,1,0,1,0,0,1,0,1,0]) a H K = gOps Try.prog 0 call (opsAt (fAt Try.f23 [1,1,1,1,1,1,0,1,0,0,1,0,1,0])) ((opsAt (fAt Try.f23 [1,1,1,1,1,1,0,1,0,0,1,0,1,0])).drop 0) a H (K .normal) := at_region (by kernel_rfl)
theorem n23_98 : gCode Try.prog call k (fAt Try.f23 [1,1,1,1,1,1,0,1,0,0,1,0,1,1]) a H K = gCode Try.prog call k (fAt Try.f23 [1,1,1,1,1,1,0,1,0,0,1,0,1,1,0]) a H (hBlock 14 K) := at_block (by kernel_rfl)
theorem n23_99 : gCode Try.prog call k (fAt Try.f23 [1,1,1,1,1,1,0,1,0,0,1,0,1,1,0]) a H K = gLoop (gCode Try.prog call k (fAt Try.f23 [1,1,1,1,1,1,0,1,0,0,1,0,1,1,0,0])) K k a H := at_loop (by kernel_rfl)
theorem n23_100 : gCode Try.prog call k (fAt Try.f23 [1,1,1,1,1,1,0,1,0,0,0,1,1]) a H K = K (.exit 12) a H := at_exit (by kernel_rfl)
theorem n23_101 : gCode Try.prog call k (fAt Try.f23 [1,1,1,1,1,1,0,1,0,0,1,0,1,1,0,0]) a H K = gCode Try.prog call k (fAt Try.f23 [1,1,1,1,1,1,0,1,0,0,1,0,1,1,0,0,0]) a H (hSeq (gCode Try.prog call k (fAt Try.f23 [1,1,1,1,1,1,0,1,0,0,1,0,1,1,0,0,1])) K) := at_seq (by kernel_rfl)
theorem n23_102 : gCode Try.prog call k (fAt Try.f23 [1,1,1,1,1,1,0,1,0,0,1,0,1,1,0,0,0]) a H K = gCode Try.prog call k (fAt Try.f23 [1,1,1,1,1,1,0,1,0,0,1,0,1,1,0,0,0,0]) a H (hSeq (gCode Try.prog call k (fAt Try.f23 [1,1,1,1,1,1,0,1,0,0,1,0,1,1,0,0,0,1])) K) := at_seq (by kernel_rfl)
theorem n23_103 : gCode Try.prog call k (fAt Try.f23 [1,1,1,1,1,1,0,1,0,0,1,0,1,1,0,0,0,0]) a H K = gOps Try.prog 0 call (opsAt (fAt Try.f23 [1,1,1,1,1,1,0,1,0,0,1,0,1,1,0,0,0,0])) ((opsAt (fAt Try.f23 [1,1,1,1,1,1,0,1,0,0,1,0,1,1,0,0,0,0])).drop 0) a H (K .normal) := at_region (by kernel_rfl)
theorem n23_104 : gCode Try.prog call k (fAt Try.f23 [1,1,1,1,1,1,0,1,0,0,1,0,1,1,0,0,0,1]) a H K = onBool (asB (GA.eval a (.tmp 149))) (gCode Try.prog call k (fAt Try.f23 [1,1,1,1,1,1,0,1,0,0,1,0,1,1,0,0,0,1,0]) a H K) (gCode Try.prog call k (fAt Try.f23 [1,1,1,1,1,1,0,1,0,0,1,0,1,1,0,0,0,1,1]) a H K) := at_cond (by kernel_rfl)
theorem n23_105 : gCode Try.prog call k (fAt Try.f23 [1,1,1,1,1,1,0,1,0,0,1,0,1,1,0,0,0,1,0]) a H K = K .normal a H := at_skip (by kernel_rfl)
theorem n23_106 : gCode Try.prog call k (fAt Try.f23 [1,1,1,1,1,1,0,1,0,0,1,0,1,1,0,0,1]) a H K = gCode Try.prog call k (fAt Try.f23 [1,1,1,1,1,1,0,1,0,0,1,0,1,1,0,0,1,0]) a H (hSeq (gCode Try.prog call k (fAt Try.f23 [1,1,1,1,1,1,0,1,0,0,1,0,1,1,0,0,1,1])) K) := at_seq (by kernel_rfl)
theorem n23_107 : gCode Try.prog call k (fAt Try.f23 [1,1,1,1,1,1,0,1,0,0,1,0,1,1,0,0,1,0]) a H K = gCode Try.prog call k (fAt Try.f23 [1,1,1,1,1,1,0,1,0,0,1,0,1,1,0,0,1,0,0]) a H (hBlock 15 K) := at_block (by kernel_rfl)
theorem n23_108 : gCode Try.prog call k (fAt Try.f23 [1,1,1,1,1,1,0,1,0,0,1,0,1,1,0,0,1,0,0]) a H K = gCode Try.prog call k (fAt Try.f23 [1,1,1,1,1,1,0,1,0,0,1,0,1,1,0,0,1,0,0,0]) a H (hSeq (gCode Try.prog call k (fAt Try.f23 [1,1,1,1,1,1,0,1,0,0,1,0,1,1,0,0,1,0,0,1])) K) := at_seq (by kernel_rfl)
theorem n23_109 : gCode Try.prog call k (fAt Try.f23 [1,1,1,1,1,1,0,1,0,0,1,0,1,1,0,0,1,0,0,0]) a H K = gOps Try.prog 0 call (opsAt (fAt Try.f23 [1,1,1,1,1,1,0,1,0,0,1,0,1,1,0,0,1,0,0,0])) ((opsAt (fAt Try.f23 [1,1,1,1,1,1,0,1,0,0,1,0,1,1,0,0,1,0,0,0])).drop 0) a H (K .normal) := at_region (by kernel_rfl)
theorem n23_110 : gCode Try.prog call k (fAt Try.f23 [1,1,1,1,1,1,0,1,0,0,1,0,1,1,0,0,1,0,0,1]) a H K = gCode Try.prog call k (fAt Try.f23 [1,1,1,1,1,1,0,1,0,0,1,0,1,1,0,0,1,0,0,1,0]) a H (hSeq (gCode Try.prog call k (fAt Try.f23 [1,1,1,1,1,1,0,1,0,0,1,0,1,1,0,0,1,0,0,1,1])) K) := at_seq (by kernel_rfl)
theorem n23_111 : gCode Try.prog call k (fAt Try.f23 [1,1,1,1,1,1,0,1,0,0,1,0,1,1,0,0,0,1,1]) a H K = K (.exit 14) a H := at_exit (by kernel_rfl)
theorem n23_112 : gCode Try.prog call k (fAt Try.f23 [1,1,1,1,1,1,1]) a H K = gCode Try.prog call k (fAt Try.f23 [1,1,1,1,1,1,1,0]) a H (hSeq (gCode Try.prog call k (fAt Try.f23 [1,1,1,1,1,1,1,1])) K) := at_seq (by kernel_rfl)
theorem n23_113 : gCode Try.prog call k (fAt Try.f23 [1,1,1,1,1,1,1,0]) a H K = gCode Try.prog call k (fAt Try.f23 [1,1,1,1,1,1,1,0,0]) a H (hSeq (gCode Try.prog call k (fAt Try.f23 [1,1,1,1,1,1,1,0,1])) K) := at_seq (by kernel_rfl)
theorem n23_114 : gCode Try.prog call k (fAt Try.f23 [1,1,1,1,1,1,1,0,0]) a H K = gOps Try.prog 0 call (opsAt (fAt Try.f23 [1,1,1,1,1,1,1,0,0])) ((opsAt (fAt Try.f23 [1,1,1,1,1,1,1,0,0])).drop 0) a H (K .normal) := at_region (by kernel_rfl)
theorem n23_115 : gCode Try.prog call k (fAt Try.f23 [1,1,1,1,1,1,1,0,1]) a H K = gCode Try.prog call k (fAt Try.f23 [1,1,1,1,1,1,1,0,1,0]) a H (hBlock 16 K) := at_block (by kernel_rfl)
theorem n23_116 : gCode Try.prog call k (fAt Try.f23 [1,1,1,1,1,1,1,0,1,0]) a H K = gLoop (gCode Try.prog call k (fAt Try.f23 [1,1,1,1,1,1,1,0,1,0,0])) K k a H := at_loop (by kernel_rfl)
theorem n23_117 : gCode Try.prog call k (fAt Try.f23 [1,1,1,0,1,0,0,1,0,0,1,0,0,1,0,0,1,0,1,1]) a H K = K .normal a H := at_skip (by kernel_rfl)
theorem n23_118 : gCode Try.prog call k (fAt Try.f23 [1,1,1,0,1,0,0,1,0,0,1,0,0,1,0,0,1,1]) a H K = gCode Try.prog call k (fAt Try.f23 [1,1,1,0,1,0,0,1,0,0,1,0,0,1,0,0,1,1,0]) a H (hSeq (gCode Try.prog call k (fAt Try.f23 [1,1,1,0,1,0,0,1,0,0,1,0,0,1,0,0,1,1,1])) K) := at_seq (by kernel_rfl)
theorem n23_119 : gCode Try.prog call k (fAt Try.f23 [1,1,1,0,1,0,0,1,0,0,1,0,0,1,0,0,1,1,0]) a H K = gCode Try.prog call k (fAt Try.f23 [1,1,1,0,1,0,0,1,0,0,1,0,0,1,0,0,1,1,0,0]) a H (hSeq (gCode Try.prog call k (fAt Try.f23 [1,1,1,0,1,0,0,1,0,0,1,0,0,1,0,0,1,1,0,1])) K) := at_seq (by kernel_rfl)
theorem n23_120 : gCode Try.prog call k (fAt Try.f23 [1,1,1,0,1,0,0,1,0,0,1,0,0,1,0,0,1,1,0,0]) a H K = gOps Try.prog 0 call (opsAt (fAt Try.f23 [1,1,1,0,1,0,0,1,0,0,1,0,0,1,0,0,1,1,0,0])) ((opsAt (fAt Try.f23 [1,1,1,0,1,0,0,1,0,0,1,0,0,1,0,0,1,1,0,0])).drop 0) a H (K .normal) := at_region (by kernel_rfl)
theorem n23_121 : gCode Try.prog call k (fAt Try.f23 [1,1,1,0,1,0,0,1,0,0,1,0,0,1,0,0,1,1,0,1]) a H K = gCode Try.prog call k (fAt Try.f23 [1,1,1,0,1,0,0,1,0,0,1,0,0,1,0,0,1,1,0,1,0]) a H (hBlock 4 K) := at_block (by kernel_rfl)
theorem n23_122 : gCode Try.prog call k (fAt Try.f23 [1,1,1,0,1,0,0,1,0,0,1,0,0,1,0,0,1,1,0,1,0]) a H K = gLoop (gCode Try.prog call k (fAt Try.f23 [1,1,1,0,1,0,0,1,0,0,1,0,0,1,0,0,1,1,0,1,0,0])) K k a H := at_loop (by kernel_rfl)
theorem n23_123 : gCode Try.prog call k (fAt Try.f23 [1,1,1,1,1,1,0,1,0,0,1,0,1,1,0,0,1,0,0,1,0]) a H K = gOps Try.prog 1 call (opsAt (fAt Try.f23 [1,1,1,1,1,1,0,1,0,0,1,0,1,1,0,0,1,0,0,1,0])) ((opsAt (fAt Try.f23 [1,1,1,1,1,1,0,1,0,0,1,0,1,1,0,0,1,0,0,1,0])).drop 0) a H (K .normal) := at_region (by kernel_rfl)
theorem n23_124 : gCode Try.prog call k (fAt Try.f23 [1,1,1,1,1,1,1,0,1,0,0]) a H K = gCode Try.prog call k (fAt Try.f23 [1,1,1,1,1,1,1,0,1,0,0,0]) a H (hSeq (gCode Try.prog call k (fAt Try.f23 [1,1,1,1,1,1,1,0,1,0,0,1])) K) := at_seq (by kernel_rfl)
theorem n23_125 : gCode Try.prog call k (fAt Try.f23 [1,1,1,1,1,1,1,0,1,0,0,0]) a H K = gCode Try.prog call k (fAt Try.f23 [1,1,1,1,1,1,1,0,1,0,0,0,0]) a H (hSeq (gCode Try.prog call k (fAt Try.f23 [1,1,1,1,1,1,1,0,1,0,0,0,1])) K) := at_seq (by kernel_rfl)
theorem n23_126 : gCode Try.prog call k (fAt Try.f23 [1,1,1,1,1,1,1,0,1,0,0,0,0]) a H K = gOps Try.prog 0 call (opsAt (fAt Try.f23 [1,1,1,1,1,1,1,0,1,0,0,0,0])) ((opsAt (fAt Try.f23 [1,1,1,1,1,1,1,0,1,0,0,0,0])).drop 0) a H (K .normal) := at_region (by kernel_rfl)
theorem n23_127 : gCode Try.prog call k (fAt Try.f23 [1,1,1,1,1,1,1,0,1,0,0,0,1]) a H K = onBool (asB (GA.eval a (.tmp 180))) (gCode Try.prog call k (fAt Try.f23 [1,1,1,1,1,1,1,0,1,0,0,0,1,0]) a H K) (gCode Try.prog call k (fAt Try.f23 [1,1,1,1,1,1,1,0,1,0,0,0,1,1]) a H K) := at_cond (by kernel_rfl)
theorem n23_128 : gCode Try.prog call k (fAt Try.f23 [1,1,1,1,1,1,1,0,1,0,0,0,1,0]) a H K = K .normal a H := at_skip (by kernel_rfl)
theorem n23_129 : gCode Try.prog call k (fAt Try.f23 [1,1,1,1,1,1,1,0,1,0,0,1]) a H K = gCode Try.prog call k (fAt Try.f23 [1,1,1,1,1,1,1,0,1,0,0,1,0]) a H (hSeq (gCode Try.prog call k (fAt Try.f23 [1,1,1,1,1,1,1,0,1,0,0,1,1])) K) := at_seq (by kernel_rfl)
theorem n23_130 : gCode Try.prog call k (fAt Try.f23 [1,1,1,1,1,1,1,0,1,0,0,1,0]) a H K = gCode Try.prog call k (fAt Try.f23 [1,1,1,1,1,1,1,0,1,0,0,1,0,0]) a H (hBlock 17 K) := at_block (by kernel_rfl)
theorem n23_131 : gCode Try.prog call k (fAt Try.f23 [1,1,1,1,1,1,1,0,1,0,0,1,0,0]) a H K = gCode Try.prog call k (fAt Try.f23 [1,1,1,1,1,1,1,0,1,0,0,1,0,0,0]) a H (hSeq (gCode Try.prog call k (fAt Try.f23 [1,1,1,1,1,1,1,0,1,0,0,1,0,0,1])) K) := at_seq (by kernel_rfl)
theorem n23_132 : gCode Try.prog call k (fAt Try.f23 [1,1,1,1,1,1,1,0,1,0,0,1,0,0,0]) a H K = gOps Try.prog 1 call (opsAt (fAt Try.f23 [1,1,1,1,1,1,1,0,1,0,0,1,0,0,0])) ((opsAt (fAt Try.f23 [1,1,1,1,1,1,1,0,1,0,0,1,0,0,0])).drop 0) a H (K .normal) := at_region (by kernel_rfl)
theorem n23_133 : gCode Try.prog call k (fAt Try.f23 [1,1,1,1,1,1,1,0,1,0,0,1,0,0,1]) a H K = onBool (asB (GA.eval a (.tmp 192))) (gCode Try.prog call k (fAt Try.f23 [1,1,1,1,1,1,1,0,1,0,0,1,0,0,1,0]) a H K) (gCode Try.prog call k (fAt Try.f23 [1,1,1,1,1,1,1,0,1,0,0,1,0,0,1,1]) a H K) := at_cond (by kernel_rfl)
theorem n23_134 : gCode Try.prog call k (fAt Try.f23 [1,1,1,1,1,1,1,0,1,0,0,1,0,0,1,0]) a H K = gCode Try.prog call k (fAt Try.f23 [1,1,1,1,1,1,1,0,1,0,0,1,0,0,1,0,0]) a H (hSeq (gCode Try.prog call k (fAt Try.f23 [1,1,1,1,1,1,1,0,1,0,0,1,0,0,1,0,1])) K) := at_seq (by kernel_rfl)
theorem n23_135 : gCode Try.prog call k (fAt Try.f23 [1,1,1,1,1,1,1,0,1,0,0,1,0,0,1,0,0]) a H K = gOps Try.prog 0 call (opsAt (fAt Try.f23 [1,1,1,1,1,1,1,0,1,0,0,1,0,0,1,0,0])) ((opsAt (fAt Try.f23 [1,1,1,1,1,1,1,0,1,0,0,1,0,0,1,0,0])).drop 0) a H (K .normal) := at_region (by kernel_rfl)
theorem n23_136 : gCode Try.prog call k (fAt Try.f23 [1,1,1,1,1,1,1,0,1,0,0,1,0,0,1,0,1]) a H K = K .ret a H := at_ret (by kernel_rfl)
theorem n23_137 : gCode Try.prog call k (fAt Try.f23 [1,1,1,1,1,1,1,0,1,0,0,1,0,0,1,1]) a H K = K .normal a H := at_skip (by kernel_rfl)
theorem n23_138 : gCode Try.prog call k (fAt Try.f23 [1,1,1,1,1,1,1,0,1,0,0,1,1]) a H K = gOps Try.prog 0 call (opsAt (fAt Try.f23 [1,1,1,1,1,1,1,0,1,0,0,1,1])) ((opsAt (fAt Try.f23 [1,1,1,1,1,1,1,0,1,0,0,1,1])).drop 0) a H (K .normal) := at_region (by kernel_rfl)
theorem n23_139 : gCode Try.prog call k (fAt Try.f23 [1,1,1,1,1,1,1,0,1,0,0,0,1,1]) a H K = K (.exit 16) a H := at_exit (by kernel_rfl)
theorem n23_140 : gCode Try.prog call k (fAt Try.f23 [1,1,1,1,1,1,1,1]) a H K = gCode Try.prog call k (fAt Try.f23 [1,1,1,1,1,1,1,1,0]) a H (hSeq (gCode Try.prog call k (fAt Try.f23 [1,1,1,1,1,1,1,1,1])) K) := at_seq (by kernel_rfl)
theorem n23_141 : gCode Try.prog call k (fAt Try.f23 [1,1,1,1,1,1,1,1,0]) a H K = gOps Try.prog 0 call (opsAt (fAt Try.f23 [1,1,1,1,1,1,1,1,0])) ((opsAt (fAt Try.f23 [1,1,1,1,1,1,1,1,0])).drop 0) a H (K .normal) := at_region (by kernel_rfl)
theorem n23_142 : gCode Try.prog call k (fAt Try.f23 [1,1,1,1,1,1,1,1,1]) a H K = K .ret a H := at_ret (by kernel_rfl)
theorem n23_143 : gCode Try.prog call k (fAt Try.f23 [1,1,1,0,1,0,0,1,0,0,1,0,0,1,0,0,1,1,0,1,0,0]) a H K = gCode Try.prog call k (fAt Try.f23 [1,1,1,0,1,0,0,1,0,0,1,0,0,1,0,0,1,1,0,1,0,0,0]) a H (hSeq (gCode Try.prog call k (fAt Try.f23 [1,1,1,0,1,0,0,1,0,0,1,0,0,1,0,0,1,1,0,1,0,0,1])) K) := at_seq (by kernel_rfl)
theorem n23_144 : gCode Try.prog call k (fAt Try.f23 [1,1,1,0,1,0,0,1,0,0,1,0,0,1,0,0,1,1,0,1,0,0,0]) a H K = gCode Try.prog call k (fAt Try.f23 [1,1,1,0,1,0,0,1,0,0,1,0,0,1,0,0,1,1,0,1,0,0,0,0]) a H (hSeq (gCode Try.prog call k (fAt Try.f23 [1,1,1,0,1,0,0,1,0,0,1,0,0,1,0,0,1,1,0,1,0,0,0,1])) K) := at_seq (by kernel_rfl)
theorem n23_145 : gCode Try.prog call k (fAt Try.f23 [1,1,1,0,1,0,0,1,0,0,1,0,0,1,0,0,1,1,0,1,0,0,0,0]) a H K = gOps Try.prog 0 call (opsAt (fAt Try.f23 [1,1,1,0,1,0,0,1,0,0,1,0,0,1,0,0,1,1,0,1,0,0,0,0])) ((opsAt (fAt Try.f23 [1,1,1,0,1,0,0,1,0,0,1,0,0,1,0,0,1,1,0,1,0,0,0,0])).drop 0) a H (K .normal) := at_region (by kernel_rfl)
theorem n23_146 : gCode Try.prog call k (fAt Try.f23 [1,1,1,0,1,0,0,1,0,0,1,0,0,1,0,0,1,1,0,1,0,0,0,1]) a H K = onBool (asB (GA.eval a (.tmp 63))) (gCode Try.prog call k (fAt Try.f23 [1,1,1,0,1,0,0,1,0,0,1,0,0,1,0,0,1,1,0,1,0,0,0,1,0]) a H K) (gCode Try.prog call k (fAt Try.f23 [1,1,1,0,1,0,0,1,0,0,1,0,0,1,0,0,1,1,0,1,0,0,0,1,1]) a H K) := at_cond (by kernel_rfl)
theorem n23_147 : gCode Try.prog call k (fAt Try.f23 [1,1,1,0,1,0,0,1,0,0,1,0,0,1,0,0,1,1,0,1,0,0,0,1,0]) a H K = K .normal a H := at_skip (by kernel_rfl)
theorem n23_148 : gCode Try.prog call k (fAt Try.f23 [1,1,1,0,1,0,0,1,0,0,1,0,0,1,0,0,1,1,0,1,0,0,1]) a H K = gCode Try.prog call k (fAt Try.f23 [1,1,1,0,1,0,0,1,0,0,1,0,0,1,0,0,1,1,0,1,0,0,1,0]) a H (hSeq (gCode Try.prog call k (fAt Try.f23 [1,1,1,0,1,0,0,1,0,0,1,0,0,1,0,0,1,1,0,1,0,0,1,1])) K) := at_seq (by kernel_rfl)
theorem n23_149 : gCode Try.prog call k (fAt Try.f23 [1,1,1,0,1,0,0,1,0,0,1,0,0,1,0,0,1,1,0,1,0,0,1,0]) a H K = gCode Try.prog call k (fAt Try.f23 [1,1,1,0,1,0,0,1,0,0,1,0,0,1,0,0,1,1,0,1,0,0,1,0,0]) a H (hBlock 5 K) := at_block (by kernel_rfl)
theorem n23_150 : gCode Try.prog call k (fAt Try.f23 [1,1,1,0,1,0,0,1,0,0,1,0,0,1,0,0,1,1,0,1,0,0,1,0,0]) a H K = gCode Try.prog call k (fAt Try.f23 [1,1,1,0,1,0,0,1,0,0,1,0,0,1,0,0,1,1,0,1,0,0,1,0,0,0]) a H (hSeq (gCode Try.prog call k (fAt Try.f23 [1,1,1,0,1,0,0,1,0,0,1,0,0,1,0,0,1,1,0,1,0,0,1,0,0,1])) K) := at_seq (by kernel_rfl)
theorem n23_151 : gCode Try.prog call k (fAt Try.f23 [1,1,1,0,1,0,0,1,0,0,1,0,0,1,0,0,1,1,0,1,0,0,1,0,0,0]) a H K = gOps Try.prog 0 call (opsAt (fAt Try.f23 [1,1,1,0,1,0,0,1,0,0,1,0,0,1,0,0,1,1,0,1,0,0,1,0,0,0])) ((opsAt (fAt Try.f23 [1,1,1,0,1,0,0,1,0,0,1,0,0,1,0,0,1,1,0,1,0,0,1,0,0,0])).drop 0) a H (K .normal) := at_region (by kernel_rfl)
theorem n23_152 : gCode Try.prog call k (fAt Try.f23 [1,1,1,0,1,0,0,1,0,0,1,0,0,1,0,0,1,1,0,1,0,0,1,0,0,1]) a H K = gCode Try.prog call k (fAt Try.f23 [1,1,1,0,1,0,0,1,0,0,1,0,0,1,0,0,1,1,0,1,0,0,1,0,0,1,0]) a H (hSeq (gCode Try.prog call k (fAt Try.f23 [1,1,1,0,1,0,0,1,0,0,1,0,0,1,0,0,1,1,0,1,0,0,1,0,0,1,1])) K) := at_seq (by kernel_rfl)
theorem n23_153 : gCode Try.prog call k (fAt Try.f23 [1,1,1,0,1,0,0,1,0,0,1,0,0,1,0,0,1,1,0,1,0,0,1,0,0,1,0]) a H K = gCode Try.prog call k (fAt Try.f23 [1,1,1,0,1,0,0,1,0,0,1,0,0,1,0,0,1,1,0,1,0,0,1,0,0,1,0,0]) a H (hSeq (gCode Try.prog call k (fAt Try.f23 [1,1,1,0,1,0,0,1,0,0,1,0,0,1,0,0,1,1,0,1,0,0,1,0,0,1,0,1])) K) := at_seq (by kernel_rfl)
theorem n23_154 : gCode Try.prog call k (fAt Try.f23 [1,1,1,0,1,0,0,1,0,0,1,0,0,1,0,0,1,1,0,1,0,0,0,1,1]) a H K = K (.exit 4) a H := at_exit (by kernel_rfl)
theorem n23_155 : gCode Try.prog call k (fAt Try.f23 [1,1,1,1,1,1,0,1,0,0,1,0,1,1,0,0,1,0,0,1,1]) a H K = onBool (asB (GA.eval a (.tmp 173))) (gCode Try.prog call k (fAt Try.f23 [1,1,1,1,1,1,0,1,0,0,1,0,1,1,0,0,1,0,0,1,1,0]) a H K) (gCode Try.prog call k (fAt Try.f23 [1,1,1,1,1,1,0,1,0,0,1,0,1,1,0,0,1,0,0,1,1,1]) a H K) := at_cond (by kernel_rfl)
theorem n23_156 : gCode Try.prog call k (fAt Try.f23 [1,1,1,1,1,1,0,1,0,0,1,0,1,1,0,0,1,0,0,1,1,0]) a H K = gCode Try.prog call k (fAt Try.f23 [1,1,1,1,1,1,0,1,0,0,1,0,1,1,0,0,1,0,0,1,1,0,0]) a H (hSeq (gCode Try.prog call k (fAt Try.f23 [1,1,1,1,1,1,0,1,0,0,1,0,1,1,0,0,1,0,0,1,1,0,1])) K) := at_seq (by kernel_rfl)
theorem n23_157 : gCode Try.prog call k (fAt Try.f23 [1,1,1,1,1,1,0,1,0,0,1,0,1,1,0,0,1,0,0,1,1,0,0]) a H K = gOps Try.prog 0 call (opsAt (fAt Try.f23 [1,1,1,1,1,1,0,1,0,0,1,0,1,1,0,0,1,0,0,1,1,0,0])) ((opsAt (fAt Try.f23 [1,1,1,1,1,1,0,1,0,0,1,0,1,1,0,0,1,0,0,1,1,0,0])).drop 0) a H (K .normal) := at_region (by kernel_rfl)
theorem n23_158 : gCode Try.prog call k (fAt Try.f23 [1,1,1,1,1,1,0,1,0,0,1,0,1,1,0,0,1,0,0,1,1,0,1]) a H K = gOps Try.prog 0 call (opsAt (fAt Try.f23 [1,1,1,1,1,1,0,1,0,0,1,0,1,1,0,0,1,0,0,1,1,0,1])) ((opsAt (fAt Try.f23 [1,1,1,1,1,1,0,1,0,0,1,0,1,1,0,0,1,0,0,1,1,0,1])).drop 0) a H (K .normal) := at_region (by kernel_rfl)
theorem n23_159 : gCode Try.prog call k (fAt Try.f23 [1,1,1,1,1,1,0,1,0,0,1,0,1,1,0,0,1,0,0,1,1,1]) a H K = K .normal a H := at_skip (by kernel_rfl)
theorem n23_160 : gCode Try.prog call k (fAt Try.f23 [1,1,1,1,1,1,0,1,0,0,1,0,1,1,0,0,1,1]) a H K = gOps Try.prog 0 call (opsAt (fAt Try.f23 [1,1,1,1,1,1,0,1,0,0,1,0,1,1,0,0,1,1])) ((opsAt (fAt Try.f23 [1,1,1,1,1,1,0,1,0,0,1,0,1,1,0,0,1,1])).drop 0) a H (K .normal) := at_region (by kernel_rfl)
theorem n23_161 : gCode Try.prog call k (fAt Try.f23 [1,1,1,0,1,0,0,1,0,0,1,0,0,1,0,0,1,1,0,1,0,0,1,0,0,1,0,0]) a H K = gOps Try.prog 0 call (opsAt (fAt Try.f23 [1,1,1,0,1,0,0,1,0,0,1,0,0,1,0,0,1,1,0,1,0,0,1,0,0,1,0,0])) ((opsAt (fAt Try.f23 [1,1,1,0,1,0,0,1,0,0,1,0,0,1,0,0,1,1,0,1,0,0,1,0,0,1,0,0])).drop 0) a H (K .normal) := at_region (by kernel_rfl)
theorem n23_162 : gCode Try.prog call k (fAt Try.f23 [1,1,1,0,1,0,0,1,0,0,1,0,0,1,0,0,1,1,1]) a H K = gCode Try.prog call k (fAt Try.f23 [1,1,1,0,1,0,0,1,0,0,1,0,0,1,0,0,1,1,1,0]) a H (hSeq (gCode Try.prog call k (fAt Try.f23 [1,1,1,0,1,0,0,1,0,0,1,0,0,1,0,0,1,1,1,1])) K) := at_seq (by kernel_rfl)
theorem n23_163 : gCode Try.prog call k (fAt Try.f23 [1,1,1,0,1,0,0,1,0,0,1,0,0,1,0,0,1,1,1,0]) a H K = gCode Try.prog call k (fAt Try.f23 [1,1,1,0,1,0,0,1,0,0,1,0,0,1,0,0,1,1,1,0,0]) a H (hSeq (gCode Try.prog call k (fAt Try.f23 [1,1,1,0,1,0,0,1,0,0,1,0,0,1,0,0,1,1,1,0,1])) K) := at_seq (by kernel_rfl)
theorem n23_164 : gCode Try.prog call k (fAt Try.f23 [1,1,1,0,1,0,0,1,0,0,1,0,0,1,0,0,1,1,1,0,0]) a H K = gOps Try.prog 0 call (opsAt (fAt Try.f23 [1,1,1,0,1,0,0,1,0,0,1,0,0,1,0,0,1,1,1,0,0])) ((opsAt (fAt Try.f23 [1,1,1,0,1,0,0,1,0,0,1,0,0,1,0,0,1,1,1,0,0])).drop 0) a H (K .normal) := at_region (by kernel_rfl)
theorem n23_165 : gCode Try.prog call k (fAt Try.f23 [1,1,1,0,1,0,0,1,0,0,1,0,0,1,0,0,1,1,1,0,1]) a H K = gCode Try.prog call k (fAt Try.f23 [1,1,1,0,1,0,0,1,0,0,1,0,0,1,0,0,1,1,1,0,1,0]) a H (hBlock 6 K) := at_block (by kernel_rfl)
theorem n23_166 : gCode Try.prog call k (fAt Try.f23 [1,1,1,0,1,0,0,1,0,0,1,0,0,1,0,0,1,1,1,0,1,0]) a H K = gLoop (gCode Try.prog call k (fAt Try.f23 [1,1,1,0,1,0,0,1,0,0,1,0,0,1,0,0,1,1,1,0,1,0,0])) K k a H := at_loop (by kernel_rfl)
theorem n23_167 : gCode Try.prog call k (fAt Try.f23 [1,1,1,0,1,0,0,1,0,0,1,0,0,1,0,0,1,1,0,1,0,0,1,0,0,1,0,1]) a H K = onBool (asB (GA.eval a (.tmp 80))) (gCode Try.prog call k (fAt Try.f23 [1,1,1,0,1,0,0,1,0,0,1,0,0,1,0,0,1,1,0,1,0,0,1,0,0,1,0,1,0]) a H K) (gCode Try.prog call k (fAt Try.f23 [1,1,1,0,1,0,0,1,0,0,1,0,0,1,0,0,1,1,0,1,0,0,1,0,0,1,0,1,1]) a H K) := at_cond (by kernel_rfl)
theorem n23_168 : gCode Try.prog call k (fAt Try.f23 [1,1,1,0,1,0,0,1,0,0,1,0,0,1,0,0,1,1,0,1,0,0,1,0,0,1,0,1,0]) a H K = gCode Try.prog call k (fAt Try.f23 [1,1,1,0,1,0,0,1,0,0,1,0,0,1,0,0,1,1,0,1,0,0,1,0,0,1,0,1,0,0]) a H (hSeq (gCode Try.prog call k (fAt Try.f23 [1,1,1,0,1,0,0,1,0,0,1,0,0,1,0,0,1,1,0,1,0,0,1,0,0,1,0,1,0,1])) K) := at_seq (by kernel_rfl)
theorem n23_169 : gCode Try.prog call k (fAt Try.f23 [1,1,1,0,1,0,0,1,0,0,1,0,0,1,0,0,1,1,0,1,0,0,1,0,0,1,0,1,0,0]) a H K = gOps Try.prog 0 call (opsAt (fAt Try.f23 [1,1,1,0,1,0,0,1,0,0,1,0,0,1,0,0,1,1,0,1,0,0,1,0,0,1,0,1,0,0])) ((opsAt (fAt Try.f23 [1,1,1,0,1,0,0,1,0,0,1,0,0,1,0,0,1,1,0,1,0,0,1,0,0,1,0,1,0,0])).drop 0) a H (K .normal) := at_region (by kernel_rfl)
theorem n23_170 : gCode Try.prog call k (fAt Try.f23 [1,1,1,0,1,0,0,1,0,0,1,0,0,1,0,0,1,1,0,1,0,0,1,0,0,1,0,1,0,1]) a H K = K .ret a H := at_ret (by kernel_rfl)
theorem n23_171 : gCode Try.prog call k (fAt Try.f23 [1,1,1,0,1,0,0,1,0,0,1,0,0,1,0,0,1,1,0,1,0,0,1,0,0,1,0,1,1]) a H K = K .normal a H := at_skip (by kernel_rfl)
theorem n23_172 : gCode Try.prog call k (fAt Try.f23 [1,1,1,0,1,0,0,1,0,0,1,0,0,1,0,0,1,1,0,1,0,0,1,0,0,1,1]) a H K = gCode Try.prog call k (fAt Try.f23 [1,1,1,0,1,0,0,1,0,0,1,0,0,1,0,0,1,1,0,1,0,0,1,0,0,1,1,0]) a H (hSeq (gCode Try.prog call k (fAt Try.f23 [1,1,1,0,1,0,0,1,0,0,1,0,0,1,0,0,1,1,0,1,0,0,1,0,0,1,1,1])) K) := at_seq (by kernel_rfl)
theorem n23_173 : gCode Try.prog call k (fAt Try.f23 [1,1,1,0,1,0,0,1,0,0,1,0,0,1,0,0,1,1,0,1,0,0,1,0,0,1,1,0]) a H K = gOps Try.prog 0 call (opsAt (fAt Try.f23 [1,1,1,0,1,0,0,1,0,0,1,0,0,1,0,0,1,1,0,1,0,0,1,0,0,1,1,0])) ((opsAt (fAt Try.f23 [1,1,1,0,1,0,0,1,0,0,1,0,0,1,0,0,1,1,0,1,0,0,1,0,0,1,1,0])).drop 0) a H (K .normal) := at_region (by kernel_rfl)
theorem n23_174 : gCode Try.prog call k (fAt Try.f23 [1,1,1,0,1,0,0,1,0,0,1,0,0,1,0,0,1,1,0,1,0,0,1,0,0,1,1,1]) a H K = onBool (asB (GA.eval a (.tmp 82))) (gCode Try.prog call k (fAt Try.f23 [1,1,1,0,1,0,0,1,0,0,1,0,0,1,0,0,1,1,0,1,0,0,1,0,0,1,1,1,0]) a H K) (gCode Try.prog call k (fAt Try.f23 [1,1,1,0,1,0,0,1,0,0,1,0,0,1,0,0,1,1,0,1,0,0,1,0,0,1,1,1,1]) a H K) := at_cond (by kernel_rfl)
theorem n23_175 : gCode Try.prog call k (fAt Try.f23 [1,1,1,0,1,0,0,1,0,0,1,0,0,1,0,0,1,1,0,1,0,0,1,0,0,1,1,1,0]) a H K = gCode Try.prog call k (fAt Try.f23 [1,1,1,0,1,0,0,1,0,0,1,0,0,1,0,0,1,1,0,1,0,0,1,0,0,1,1,1,0,0]) a H (hSeq (gCode Try.prog call k (fAt Try.f23 [1,1,1,0,1,0,0,1,0,0,1,0,0,1,0,0,1,1,0,1,0,0,1,0,0,1,1,1,0,1])) K) := at_seq (by kernel_rfl)
theorem n23_176 : gCode Try.prog call k (fAt Try.f23 [1,1,1,0,1,0,0,1,0,0,1,0,0,1,0,0,1,1,0,1,0,0,1,0,0,1,1,1,1]) a H K = K .normal a H := at_skip (by kernel_rfl)
theorem n23_177 : gCode Try.prog call k (fAt Try.f23 [1,1,1,0,1,0,0,1,0,0,1,0,0,1,0,0,1,1,0,1,0,0,1,1]) a H K = gOps Try.prog 0 call (opsAt (fAt Try.f23 [1,1,1,0,1,0,0,1,0,0,1,0,0,1,0,0,1,1,0,1,0,0,1,1])) ((opsAt (fAt Try.f23 [1,1,1,0,1,0,0,1,0,0,1,0,0,1,0,0,1,1,0,1,0,0,1,1])).drop 0) a H (K .normal) := at_region (by kernel_rfl)
theorem n23_178 : gCode Try.prog call k (fAt Try.f23 [1,1,1,0,1,0,0,1,0,0,1,0,0,1,0,0,1,1,1,0,1,0,0]) a H K = gCode Try.prog call k (fAt Try.f23 [1,1,1,0,1,0,0,1,0,0,1,0,0,1,0,0,1,1,1,0,1,0,0,0]) a H (hSeq (gCode Try.prog call k (fAt Try.f23 [1,1,1,0,1,0,0,1,0,0,1,0,0,1,0,0,1,1,1,0,1,0,0,1])) K) := at_seq (by kernel_rfl)
theorem n23_179 : gCode Try.prog call k (fAt Try.f23 [1,1,1,0,1,0,0,1,0,0,1,0,0,1,0,0,1,1,1,0,1,0,0,0]) a H K = gCode Try.prog call k (fAt Try.f23 [1,1,1,0,1,0,0,1,0,0,1,0,0,1,0,0,1,1,1,0,1,0,0,0,0]) a H (hSeq (gCode Try.prog call k (fAt Try.f23 [1,1,1,0,1,0,0,1,0,0,1,0,0,1,0,0,1,1,1,0,1,0,0,0,1])) K) := at_seq (by kernel_rfl)
theorem n23_180 : gCode Try.prog call k (fAt Try.f23 [1,1,1,0,1,0,0,1,0,0,1,0,0,1,0,0,1,1,1,0,1,0,0,0,0]) a H K = gOps Try.prog 0 call (opsAt (fAt Try.f23 [1,1,1,0,1,0,0,1,0,0,1,0,0,1,0,0,1,1,1,0,1,0,0,0,0])) ((opsAt (fAt Try.f23 [1,1,1,0,1,0,0,1,0,0,1,0,0,1,0,0,1,1,1,0,1,0,0,0,0])).drop 0) a H (K .normal) := at_region (by kernel_rfl)
theorem n23_181 : gCode Try.prog call k (fAt Try.f23 [1,1,1,0,1,0,0,1,0,0,1,0,0,1,0,0,1,1,1,0,1,0,0,0,1]) a H K = onBool (asB (GA.eval a (.tmp 112))) (gCode Try.prog call k (fAt Try.f23 [1,1,1,0,1,0,0,1,0,0,1,0,0,1,0,0,1,1,1,0,1,0,0,0,1,0]) a H K) (gCode Try.prog call k (fAt Try.f23 [1,1,1,0,1,0,0,1,0,0,1,0,0,1,0,0,1,1,1,0,1,0,0,0,1,1]) a H K) := at_cond (by kernel_rfl)
theorem n23_182 : gCode Try.prog call k (fAt Try.f23 [1,1,1,0,1,0,0,1,0,0,1,0,0,1,0,0,1,1,1,0,1,0,0,0,1,0]) a H K = K .normal a H := at_skip (by kernel_rfl)
theorem n23_183 : gCode Try.prog call k (fAt Try.f23 [1,1,1,0,1,0,0,1,0,0,1,0,0,1,0,0,1,1,1,0,1,0,0,1]) a H K = gCode Try.prog call k (fAt Try.f23 [1,1,1,0,1,0,0,1,0,0,1,0,0,1,0,0,1,1,1,0,1,0,0,1,0]) a H (hSeq (gCode Try.prog call k (fAt Try.f23 [1,1,1,0,1,0,0,1,0,0,1,0,0,1,0,0,1,1,1,0,1,0,0,1,1])) K) := at_seq (by kernel_rfl)
theorem n23_184 : gCode Try.prog call k (fAt Try.f23 [1,1,1,0,1,0,0,1,0,0,1,0,0,1,0,0,1,1,1,0,1,0,0,1,0]) a H K = gCode Try.prog call k (fAt Try.f23 [1,1,1,0,1,0,0,1,0,0,1,0,0,1,0,0,1,1,1,0,1,0,0,1,0,0]) a H (hBlock 7 K) := at_block (by kernel_rfl)
theorem n23_185 : gCode Try.prog call k (fAt Try.f23 [1,1,1,0,1,0,0,1,0,0,1,0,0,1,0,0,1,1,1,0,1,0,0,1,0,0]) a H K = gCode Try.prog call k (fAt Try.f23 [1,1,1,0,1,0,0,1,0,0,1,0,0,1,0,0,1,1,1,0,1,0,0,1,0,0,0]) a H (hSeq (gCode Try.prog call k (fAt Try.f23 [1,1,1,0,1,0,0,1,0,0,1,0,0,1,0,0,1,1,1,0,1,0,0,1,0,0,1])) K) := at_seq (by kernel_rfl)
theorem n23_186 : gCode Try.prog call k (fAt Try.f23 [1,1,1,0,1,0,0,1,0,0,1,0,0,1,0,0,1,1,1,0,1,0,0,1,0,0,0]) a H K = gOps Try.prog 0 call (opsAt (fAt Try.f23 [1,1,1,0,1,0,0,1,0,0,1,0,0,1,0,0,1,1,1,0,1,0,0,1,0,0,0])) ((opsAt (fAt Try.f23 [1,1,1,0,1,0,0,1,0,0,1,0,0,1,0,0,1,1,1,0,1,0,0,1,0,0,0])).drop 0) a H (K .normal) := at_region (by kernel_rfl)
theorem n23_187 : gCode Try.prog call k (fAt Try.f23 [1,1,1,0,1,0,0,1,0,0,1,0,0,1,0,0,1,1,1,0,1,0,0,1,0,0,1]) a H K = onBool (asB (GA.eval a (.tmp 122))) (gCode Try.prog call k (fAt Try.f23 [1,1,1,0,1,0,0,1,0,0,1,0,0,1,0,0,1,1,1,0,1,0,0,1,0,0,1,0]) a H K) (gCode Try.prog call k (fAt Try.f23 [1,1,1,0,1,0,0,1,0,0,1,0,0,1,0,0,1,1,1,0,1,0,0,1,0,0,1,1]) a H K) := at_cond (by kernel_rfl)
theorem n23_188 : gCode Try.prog call k (fAt Try.f23 [1,1,1,0,1,0,0,1,0,0,1,0,0,1,0,0,1,1,1,0,1,0,0,1,0,0,1,0]) a H K = gCode Try.prog call k (fAt Try.f23 [1,1,1,0,1,0,0,1,0,0,1,0,0,1,0,0,1,1,1,0,1,0,0,1,0,0,1,0,0]) a H (hSeq (gCode Try.prog call k (fAt Try.f23 [1,1,1,0,1,0,0,1,0,0,1,0,0,1,0,0,1,1,1,0,1,0,0,1,0,0,1,0,1])) K) := at_seq (by kernel_rfl)
theorem n23_189 : gCode Try.prog call k (fAt Try.f23 [1,1,1,0,1,0,0,1,0,0,1,0,0,1,0,0,1,1,1,0,1,0,0,1,0,0,1,0,0]) a H K = gOps Try.prog 0 call (opsAt (fAt Try.f23 [1,1,1,0,1,0,0,1,0,0,1,0,0,1,0,0,1,1,1,0,1,0,0,1,0,0,1,0,0])) ((opsAt (fAt Try.f23 [1,1,1,0,1,0,0,1,0,0,1,0,0,1,0,0,1,1,1,0,1,0,0,1,0,0,1,0,0])).drop 0) a H (K .normal) := at_region (by kernel_rfl)
theorem n23_190 : gCode Try.prog call k (fAt Try.f23 [1,1,1,0,1,0,0,1,0,0,1,0,0,1,0,0,1,1,1,0,1,0,0,1,0,0,1,0,1]) a H K = K .ret a H := at_ret (by kernel_rfl)
theorem n23_191 : gCode Try.prog call k (fAt Try.f23 [1,1,1,0,1,0,0,1,0,0,1,0,0,1,0,0,1,1,1,0,1,0,0,1,0,0,1,1]) a H K = K .normal a H := at_skip (by kernel_rfl)
theorem n23_192 : gCode Try.prog call k (fAt Try.f23 [1,1,1,0,1,0,0,1,0,0,1,0,0,1,0,0,1,1,1,0,1,0,0,0,1,1]) a H K = K (.exit 6) a H := at_exit (by kernel_rfl)
theorem n23_193 : gCode Try.prog call k (fAt Try.f23 [1,1,1,0,1,0,0,1,0,0,1,0,0,1,0,0,1,1,0,1,0,0,1,0,0,1,1,1,0,0]) a H K = gOps Try.prog 0 call (opsAt (fAt Try.f23 [1,1,1,0,1,0,0,1,0,0,1,0,0,1,0,0,1,1,0,1,0,0,1,0,0,1,1,1,0,0])) ((opsAt (fAt Try.f23 [1,1,1,0,1,0,0,1,0,0,1,0,0,1,0,0,1,1,0,1,0,0,1,0,0,1,1,1,0,0])).drop 0) a H (K .normal) := at_region (by kernel_rfl)
theorem n23_194 : gCode Try.prog call k (fAt Try.f23 [1,1,1,0,1,0,0,1,0,0,1,0,0,1,0,0,1,1,0,1,0,0,1,0,0,1,1,1,0,1]) a H K = gCode Try.prog call k (fAt Try.f23 [1,1,1,0,1,0,0,1,0,0,1,0,0,1,0,0,1,1,0,1,0,0,1,0,0,1,1,1,0,1,0]) a H (hSeq (gCode Try.prog call k (fAt Try.f23 [1,1,1,0,1,0,0,1,0,0,1,0,0,1,0,0,1,1,0,1,0,0,1,0,0,1,1,1,0,1,1])) K) := at_seq (by kernel_rfl)
theorem n23_195 : gCode Try.prog call k (fAt Try.f23 [1,1,1,0,1,0,0,1,0,0,1,0,0,1,0,0,1,1,1,0,1,0,0,1,1]) a H K = gOps Try.prog 0 call (opsAt (fAt Try.f23 [1,1,1,0,1,0,0,1,0,0,1,0,0,1,0,0,1,1,1,0,1,0,0,1,1])) ((opsAt (fAt Try.f23 [1,1,1,0,1,0,0,1,0,0,1,0,0,1,0,0,1,1,1,0,1,0,0,1,1])).drop 0) a H (K .normal) := at_region (by kernel_rfl)
theorem n23_196 : gCode Try.prog call k (fAt Try.f23 [1,1,1,0,1,0,0,1,0,0,1,0,0,1,0,0,1,1,1,1]) a H K = gOps Try.prog 0 call (opsAt (fAt Try.f23 [1,1,1,0,1,0,0,1,0,0,1,0,0,1,0,0,1,1,1,1])) ((opsAt (fAt Try.f23 [1,1,1,0,1,0,0,1,0,0,1,0,0,1,0,0,1,1,1,1])).drop 0) a H (K .normal) := at_region (by kernel_rfl)
theorem n23_197 : gCode Try.prog call k (fAt Try.f23 [1,1,1,0,1,0,0,1,0,0,1,0,0,1,1]) a H K = gOps Try.prog 0 call (opsAt (fAt Try.f23 [1,1,1,0,1,0,0,1,0,0,1,0,0,1,1])) ((opsAt (fAt Try.f23 [1,1,1,0,1,0,0,1,0,0,1,0,0,1,1])).drop 0) a H (K .normal) := at_region (by kernel_rfl)
theorem n23_198 : gCode Try.prog call k (fAt Try.f23 [1,1,1,0,1,0,0,1,0,0,1,0,0,1,0,0,1,1,0,1,0,0,1,0,0,1,1,1,0,1,0]) a H K = gOps Try.prog 0 call (opsAt (fAt Try.f23 [1,1,1,0,1,0,0,1,0,0,1,0,0,1,0,0,1,1,0,1,0,0,1,0,0,1,1,1,0,1,0])) ((opsAt (fAt Try.f23 [1,1,1,0,1,0,0,1,0,0,1,0,0,1,0,0,1,1,0,1,0,0,1,0,0,1,1,1,0,1,0])).drop 0) a H (K .normal) := at_region (by kernel_rfl)
theorem n23_199 : gCode Try.prog call k (fAt Try.f23 [1,1,1,0,1,0,0,1,0,0,1,0,0,1,0,0,1,1,0,1,0,0,1,0,0,1,1,1,0,1,1]) a H K = onBool (asB (GA.eval a (.tmp 107))) (gCode Try.prog call k (fAt Try.f23 [1,1,1,0,1,0,0,1,0,0,1,0,0,1,0,0,1,1,0,1,0,0,1,0,0,1,1,1,0,1,1,0]) a H K) (gCode Try.prog call k (fAt Try.f23 [1,1,1,0,1,0,0,1,0,0,1,0,0,1,0,0,1,1,0,1,0,0,1,0,0,1,1,1,0,1,1,1]) a H K) := at_cond (by kernel_rfl)
theorem n23_200 : gCode Try.prog call k (fAt Try.f23 [1,1,1,0,1,0,0,1,0,0,1,0,0,1,0,0,1,1,0,1,0,0,1,0,0,1,1,1,0,1,1,1]) a H K = K .normal a H := at_skip (by kernel_rfl)
theorem n23_201 : gCode Try.prog call k (fAt Try.f23 [1,1,1,0,1,0,0,1,0,0,1,0,0,1,0,0,1,1,0,1,0,0,1,0,0,1,1,1,0,1,1,0]) a H K = gCode Try.prog call k (fAt Try.f23 [1,1,1,0,1,0,0,1,0,0,1,0,0,1,0,0,1,1,0,1,0,0,1,0,0,1,1,1,0,1,1,0,0]) a H (hSeq (gCode Try.prog call k (fAt Try.f23 [1,1,1,0,1,0,0,1,0,0,1,0,0,1,0,0,1,1,0,1,0,0,1,0,0,1,1,1,0,1,1,0,1])) K) := at_seq (by kernel_rfl)
theorem n23_202 : gCode Try.prog call k (fAt Try.f23 [1,1,1,0,1,0,0,1,0,0,1,0,0,1,0,0,1,1,0,1,0,0,1,0,0,1,1,1,0,1,1,0,0]) a H K = gOps Try.prog 0 call (opsAt (fAt Try.f23 [1,1,1,0,1,0,0,1,0,0,1,0,0,1,0,0,1,1,0,1,0,0,1,0,0,1,1,1,0,1,1,0,0])) ((opsAt (fAt Try.f23 [1,1,1,0,1,0,0,1,0,0,1,0,0,1,0,0,1,1,0,1,0,0,1,0,0,1,1,1,0,1,1,0,0])).drop 0) a H (K .normal) := at_region (by kernel_rfl)
theorem n23_203 : gCode Try.prog call k (fAt Try.f23 [1,1,1,0,1,0,0,1,0,0,1,0,0,1,0,0,1,1,0,1,0,0,1,0,0,1,1,1,0,1,1,0,1]) a H K = K .ret a H := at_ret (by kernel_rfl)
theorem s23_0 : gOps Try.prog 0 call (opsAt (fAt Try.f23 [0])) ((opsAt (fAt Try.f23 [0])).drop 0) ((FF 193 fun _ => undef) |>.set 0 p0) H K' =
  K' ((FF 193 fun _ => undef) |>.set 0 p0 |>.set 2 (.int .i64 0)) H := by kernel_rfl
theorem s23_1 : gOps Try.prog 0 call (opsAt (fAt Try.f23 [1,0,0])) ((opsAt (fAt Try.f23 [1,0,0])).drop 0) ((FF 193 fun _ => undef) |>.set 0 p0 |>.set 2 (.int .i64 0)) H K' =
  onV (oLen Try.prog 58 p0) fun v1 =>
  onV ((oBin Try.prog .neq 3 v1 (.int .i64 6)).filter closed) fun v2 =>
  K' ((FF 193 fun _ => undef) |>.set 0 p0 |>.set 2 (.int .i64 0) |>.set 18 p0 |>.set 19 v1 |>.set 20 v2) H := by kernel_rfl
theorem s23_2 : gOps Try.prog 0 call (opsAt (fAt Try.f23 [1,0,1,0,0])) ((opsAt (fAt Try.f23 [1,0,1,0,0])).drop 0) ((FF 193 fun _ => undef) |>.set 0 p0 |>.set 2 (.int .i64 0) |>.set 18 p0 |>.set 19 v1 |>.set 20 v2) H K' =
  K' ((FF 193 fun _ => undef) |>.set 0 p0 |>.set 2 (.int .i64 0) |>.set 18 p0 |>.set 19 v1 |>.set 20 v2 |>.set 2 (.int .i64 5)) H := by kernel_rfl
theorem s23_3 : gOps Try.prog 0 call (opsAt (fAt Try.f23 [1,1,0])) ((opsAt (fAt Try.f23 [1,1,0])).drop 0) ((FF 193 fun _ => undef) |>.set 0 p0 |>.set 2 (.int .i64 0) |>.set 18 p0 |>.set 19 v1 |>.set 20 v2) H K' =
  K' ((FF 193 fun _ => undef) |>.set 0 p0 |>.set 2 (.int .i64 0) |>.set 18 p0 |>.set 19 v1 |>.set 20 v2 |>.set 3 (.slice none 0 0)) H := by kernel_rfl
theorem s23_4 : gOps Try.prog 0 call (opsAt (fAt Try.f23 [1,1,1,0,0])) ((opsAt (fAt Try.f23 [1,1,1,0,0])).drop 0) ((FF 193 fun _ => undef) |>.set 0 p0 |>.set 2 (.int .i64 0) |>.set 18 p0 |>.set 19 v1 |>.set 20 v2 |>.set 3 (.slice none 0 0)) H K' =
  K' ((FF 193 fun _ => undef) |>.set 0 p0 |>.set 2 (.int .i64 0) |>.set 18 p0 |>.set 19 v1 |>.set 20 v2 |>.set 3 (.slice none 0 0) |>.set 4 (.int .i64 0)) H := by kernel_rfl
theorem s23_5 : gOps Try.prog 0 call (opsAt (fAt Try.f23 [1,1,1,0,1,0,0,0,0])) ((opsAt (fAt Try.f23 [1,1,1,0,1,0,0,0,0])).drop 0) (FF 193 d) H K' =
  onV ((oBin Try.prog .lss 3 (d 4) (.int .i64 6)).filter closed) fun v1 =>
  K' ((FF 193 d) |>.set 21 (d 4) |>.set 22 v1) H := by kernel_rfl
theorem s23_6 : gOps Try.prog 0 call (opsAt (fAt Try.f23 [1,1,1,0,1,0,0,1,0,0,0])) ((opsAt (fAt Try.f23 [1,1,1,0,1,0,0,1,0,0,0])).drop 0) ((FF 193 d) |>.set 21 (d 4) |>.set 22 v1) H K' =
  K' ((FF 193 d) |>.set 21 (d 4) |>.set 22 v1 |>.set 5 (.int .i64 0)) H := by kernel_rfl
theorem s23_7 : gOps Try.prog 0 call (opsAt (fAt Try.f23 [1,1,1,0,1,0,0,1,0,0,1,0,0,0,0])) ((opsAt (fAt Try.f23 [1,1,1,0,1,0,0,1,0,0,1,0,0,0,0])).drop 0) (FF 193 d) H K' =
  onV (oIndexAddr Try.prog 58 (d 0) (d 4)) fun v1 =>
  onV (gLoad Try.prog 59 v1 H) fun v2 =>
  onV (oLen Try.prog 59 v2) fun v3 =>
  onV ((oBin Try.prog .lss 3 (d 5) v3).filter closed) fun v4 =>
  K' ((FF 193 d) |>.set 25 (d 5) |>.set 26 (d 0) |>.set 27 (d 4) |>.set 28 v1 |>.set 29 v2 |>.set 30 v3 |>.set 31 v4) H := by kernel_rfl
theorem s23_8 : gOps Try.prog 0 call (opsAt (fAt Try.f23 [1,1,1,0,1,0,0,1,1])) ((opsAt (fAt Try.f23 [1,1,1,0,1,0,0,1,1])).drop 0) ((FF 193 d) |>.set 25 (d 5) |>.set 26 (d 0) |>.set 27 (d 4) |>.set 28 v1 |>.set 29 v2 |>.set 30 v3 |>.set 31 v4) H K' =
  onV ((oBin Try.prog .add 3 (d 4) (.int .i64 1)).filter closed) fun v5 =>
  K' ((FF 193 d) |>.set 25 (d 5) |>.set 26 (d 0) |>.set 27 (d 4) |>.set 28 v1 |>.set 29 v2 |>.set 30 v3 |>.set 31 v4 |>.set 23 (d 4) |>.set 24 v5 |>.set 4 v5) H := by kernel_rfl
theorem s23_9 : gOps Try.prog 0 call (opsAt (fAt Try.f23 [1,1,1,1,0,0])) ((opsAt (fAt Try.f23 [1,1,1,1,0,0])).drop 0) (FF 193 d) H K' =
  K' ((FF 193 d) |>.set 11 (.int .i64 0)) H := by kernel_rfl
theorem s23_10 : gOps Try.prog 0 call (opsAt (fAt Try.f23 [1,1,1,0,1,0,0,1,0,0,1,0,0,1,0,0,0])) ((opsAt (fAt Try.f23 [1,1,1,0,1,0,0,1,0,0,1,0,0,1,0,0,0])).drop 0) (FF 193 d) H K' =
  onV (oIndexAddr Try.prog 58 (d 0) (d 4)) fun v1 =>
  onV (gLoad Try.prog 59 v1 H) fun v2 =>
  onV (oIndexAddr Try.prog 59 v2 (d 5)) fun v3 =>
  onV (gLoad Try.prog 62 v3 H) fun v4 =>
  onH (gStore Try.prog 62 (.pointer (some ⟨H.n, 0, none⟩)) v4 (GH.push H (.row [(.int .u8 0), (.bool false), (.slice none 0 0), (.slice none 0 0)] 62 false))) fun H5 =>
  K' ((FF 193 d) |>.set 34 (d 0) |>.set 35 (d 4) |>.set 36 v1 |>.set 37 v2 |>.set 38 (d 5) |>.set 39 v3 |>.set 40 v4 |>.set 6 (.pointer (some ⟨H.n, 0, none⟩))) H5 := by kernel_rfl
theorem s23_11 : gOps Try.prog 0 call (opsAt (fAt Try.f23 [1,1,1,1,0,1,0,0,0,0])) ((opsAt (fAt Try.f23 [1,1,1,1,0,1,0,0,0,0])).drop 0) (FF 193 d) H K' =
  onV (oLen Try.prog 26 (d 3)) fun v1 =>
  onV ((oBin Try.prog .lss 3 (d 11) v1).filter closed) fun v2 =>
  K' ((FF 193 d) |>.set 127 (d 11) |>.set 128 (d 3) |>.set 129 v1 |>.set 130 v2) H := by kernel_rfl
theorem s23_12 : gOps Try.prog 0 call (opsAt (fAt Try.f23 [1,1,1,1,0,1,0,0,1,0,0,0])) ((opsAt (fAt Try.f23 [1,1,1,1,0,1,0,0,1,0,0,0])).drop 0) ((FF 193 d) |>.set 127 (d 11) |>.set 128 (d 3) |>.set 129 v1 |>.set 130 v2) H K' =
  K' ((FF 193 d) |>.set 127 (d 11) |>.set 128 (d 3) |>.set 129 v1 |>.set 130 v2 |>.set 12 (.int .i64 0)) H := by kernel_rfl
theorem s23_13 : gOps Try.prog 0 call (opsAt (fAt Try.f23 [1,1,1,0,1,0,0,1,0,0,1,0,0,1,0,0,1,0,0])) (((opsAt (fAt Try.f23 [1,1,1,0,1,0,0,1,0,0,1,0,0,1,0,0,1,0,0])).drop 0).take 4) (FF 193 d) H K' =
  onV (oFieldAddr Try.prog 62 (d 6) 0) fun v1 =>
  onV (gLoad Try.prog 33 v1 H) fun v2 =>
  onV ((oBin Try.prog .gtr 33 v2 (.int .u8 1)).filter closed) fun v3 =>
  onGrd true v3 (K' ((FF 193 d) |>.set 41 v1 |>.set 42 v2 |>.set 43 v3 |>.set 44 v3) H) := by kernel_rfl
theorem s23_14 : gOps Try.prog 0 call (opsAt (fAt Try.f23 [1,1,1,1,0,1,0,0,1,0,0,1,0,0,0,0])) ((opsAt (fAt Try.f23 [1,1,1,1,0,1,0,0,1,0,0,1,0,0,0,0])).drop 0) (FF 193 d) H K' =
  onV ((oBin Try.prog .lss 3 (d 12) (d 11)).filter closed) fun v1 =>
  K' ((FF 193 d) |>.set 133 (d 12) |>.set 134 (d 11) |>.set 135 v1) H := by kernel_rfl
theorem s23_15 : gOps Try.prog 1 call (opsAt (fAt Try.f23 [1,1,1,1,0,1,0,0,1,0,0,1,0,0,1,0,0,0])) ((opsAt (fAt Try.f23 [1,1,1,1,0,1,0,0,1,0,0,1,0,0,1,0,0,0])).drop 0) ((FF 193 d) |>.set 133 (d 12) |>.set 134 (d 11) |>.set 135 v1) H K' =
  onV (oIndexAddr Try.prog 26 (d 3) (d 12)) fun v2 =>
  onV (gLoad Try.prog 29 v2 H) fun v3 =>
  onV (oIndexAddr Try.prog 26 (d 3) (d 11)) fun v4 =>
  onV (gLoad Try.prog 29 v4 H) fun v5 =>
  onV ((oBin Try.prog .eql 29 v3 v5).filter closed) fun v6 =>
  K' ((FF 193 d) |>.set 133 (d 12) |>.set 134 (d 11) |>.set 135 v1 |>.set 138 (d 3) |>.set 139 (d 12) |>.set 140 v2 |>.set 141 v3 |>.set 142 (d 3) |>.set 143 (d 11) |>.set 144 v4 |>.set 145 v5 |>.set 146 v6) H := by kernel_rfl
theorem s23_16 : gOps Try.prog 0 call (opsAt (fAt Try.f23 [1,1,1,1,0,1,0,0,1,0,0,1,0,0,1,0,0,1,0,0])) ((opsAt (fAt Try.f23 [1,1,1,1,0,1,0,0,1,0,0,1,0,0,1,0,0,1,0,0])).drop 0) ((FF 193 d) |>.set 133 (d 12) |>.set 134 (d 11) |>.set 135 v1 |>.set 138 (d 3) |>.set 139 (d 12) |>.set 140 v2 |>.set 141 v3 |>.set 142 (d 3) |>.set 143 (d 11) |>.set 144 v4 |>.set 145 v5 |>.set 146 v6) H K' =
  K' ((FF 193 d) |>.set 133 (d 12) |>.set 134 (d 11) |>.set 135 v1 |>.set 138 (d 3) |>.set 139 (d 12) |>.set 140 v2 |>.set 141 v3 |>.set 142 (d 3) |>.set 143 (d 11) |>.set 144 v4 |>.set 145 v5 |>.set 146 v6 |>.set 2 (.int .i64 8)) H := by kernel_rfl
theorem s23_17 : gOps Try.prog 0 call (opsAt (fAt Try.f23 [1,1,1,1,0,1,0,0,1,0,0,1,0,0,1,1])) ((opsAt (fAt Try.f23 [1,1,1,1,0,1,0,0,1,0,0,1,0,0,1,1])).drop 0) ((FF 193 d) |>.set 133 (d 12) |>.set 134 (d 11) |>.set 135 v1 |>.set 138 (d 3) |>.set 139 (d 12) |>.set 140 v2 |>.set 141 v3 |>.set 142 (d 3) |>.set 143 (d 11) |>.set 144 v4 |>.set 145 v5 |>.set 146 v6) H K' =
  onV ((oBin Try.prog .add 3 (d 12) (.int .i64 1)).filter closed) fun v7 =>
  K' ((FF 193 d) |>.set 133 (d 12) |>.set 134 (d 11) |>.set 135 v1 |>.set 138 (d 3) |>.set 139 (d 12) |>.set 140 v2 |>.set 141 v3 |>.set 142 (d 3) |>.set 143 (d 11) |>.set 144 v4 |>.set 145 v5 |>.set 146 v6 |>.set 136 (d 12) |>.set 137 v7 |>.set 12 v7) H := by kernel_rfl
theorem s23_18 : gOps Try.prog 0 call (opsAt (fAt Try.f23 [1,1,1,1,0,1,0,0,1,1])) ((opsAt (fAt Try.f23 [1,1,1,1,0,1,0,0,1,1])).drop 0) ((FF 193 d) |>.set 133 (d 12) |>.set 134 (d 11) |>.set 135 v1) H K' =
  onV ((oBin Try.prog .add 3 (d 11) (.int .i64 1)).filter closed) fun v8 =>
  K' ((FF 193 d) |>.set 133 (d 12) |>.set 134 (d 11) |>.set 135 v1 |>.set 131 (d 11) |>.set 132 v8 |>.set 11 v8) H := by kernel_rfl
theorem s23_19 : gOps Try.prog 0 call (opsAt (fAt Try.f23 [1,1,1,1,1,0])) ((opsAt (fAt Try.f23 [1,1,1,1,1,0])).drop 0) (FF 193 d) H K' =
  K' ((FF 193 d) |>.set 13 (.pointer (some ⟨H.n, 0, none⟩))) (GH.push H (.row [(.int .i64 0), (.int .i64 0), (.int .i64 0), (.int .i64 0), (.int .i64 0), (.int .i64 0), (.int .i64 0)] 160 false)) := by kernel_rfl
theorem s23_20 : gOps Try.prog 0 call (opsAt (fAt Try.f23 [1,1,1,1,1,1,0,0])) ((opsAt (fAt Try.f23 [1,1,1,1,1,1,0,0])).drop 0) ((FF 193 d) |>.set 13 (.pointer (some ⟨H.n, 0, none⟩))) (GH.push H (.row [(.int .i64 0), (.int .i64 0), (.int .i64 0), (.int .i64 0), (.int .i64 0), (.int .i64 0), (.int .i64 0)] 160 false)) K' =
  K' ((FF 193 d) |>.set 13 (.pointer (some ⟨H.n, 0, none⟩)) |>.set 14 (.bool true)) (GH.push H (.row [(.int .i64 0), (.int .i64 0), (.int .i64 0), (.int .i64 0), (.int .i64 0), (.int .i64 0), (.int .i64 0)] 160 false)) := by kernel_rfl
theorem s23_21 : gOps Try.prog 0 call (opsAt (fAt Try.f23 [1,1,1,0,1,0,0,1,0,0,1,0,0,1,0,0,1,0,0])) ((opsAt (fAt Try.f23 [1,1,1,0,1,0,0,1,0,0,1,0,0,1,0,0,1,0,0])).drop 4) ((FF 193 d) |>.set 44 (.bool true)) H K' =
  K' ((FF 193 d) |>.set 44 (.bool true) |>.set 45 undef |>.set 46 undef |>.set 47 undef |>.set 48 undef |>.set 49 (.bool true) |>.set 50 (.bool true) |>.set 51 undef |>.set 52 undef |>.set 53 undef |>.set 54 undef |>.set 55 undef |>.set 56 undef |>.set 57 undef |>.set 58 (.bool true)) H := by kernel_rfl
theorem s23_22 : gOps Try.prog 0 call (opsAt (fAt Try.f23 [1,1,1,0,1,0,0,1,0,0,1,0,0,1,0,0,1,0,1,0,0])) ((opsAt (fAt Try.f23 [1,1,1,0,1,0,0,1,0,0,1,0,0,1,0,0,1,0,1,0,0])).drop 0) ((FF 193 d) |>.set 44 (.bool true) |>.set 45 undef |>.set 46 undef |>.set 47 undef |>.set 48 undef |>.set 49 (.bool true) |>.set 50 (.bool true) |>.set 51 undef |>.set 52 undef |>.set 53 undef |>.set 54 undef |>.set 55 undef |>.set 56 undef |>.set 57 undef |>.set 58 (.bool true)) H K' =
  K' ((FF 193 d) |>.set 44 (.bool true) |>.set 45 undef |>.set 46 undef |>.set 47 undef |>.set 48 undef |>.set 49 (.bool true) |>.set 50 (.bool true) |>.set 51 undef |>.set 52 undef |>.set 53 undef |>.set 54 undef |>.set 55 undef |>.set 56 undef |>.set 57 undef |>.set 58 (.bool true) |>.set 2 (.int .i64 1)) H := by kernel_rfl
theorem s23_23 : gOps Try.prog 0 call (opsAt (fAt Try.f23 [1,1,1,0,1,0,0,1,0,0,1,0,0,1,0,0,1,0,0])) (((opsAt (fAt Try.f23 [1,1,1,0,1,0,0,1,0,0,1,0,0,1,0,0,1,0,0])).drop 4).take 6) ((FF 193 d) |>.set 44 (.bool false)) H K' =
  onV (oFieldAddr Try.prog 62 (d 6) 2) fun v1 =>
  onV (gLoad Try.prog 26 v1 H) fun v2 =>
  onV (oLen Try.prog 26 v2) fun v3 =>
  onV ((oBin Try.prog .gtr 3 v3 (.int .i64 4)).filter closed) fun v4 =>
  onGrd true v4 (K' ((FF 193 d) |>.set 44 (.bool false) |>.set 45 v1 |>.set 46 v2 |>.set 47 v3 |>.set 48 v4 |>.set 49 v4 |>.set 50 v4) H) := by kernel_rfl
theorem s23_24 : gOps Try.prog 0 call (opsAt (fAt Try.f23 [1,1,1,1,1,1,0,1,0,0,0,0])) ((opsAt (fAt Try.f23 [1,1,1,1,1,1,0,1,0,0,0,0])).drop 0) (FF 193 d) H K' =
  K' ((FF 193 d) |>.set 147 (d 14)) H := by kernel_rfl
theorem s23_25 : gOps Try.prog 0 call (opsAt (fAt Try.f23 [1,1,1,1,1,1,0,1,0,0,1,0,0])) ((opsAt (fAt Try.f23 [1,1,1,1,1,1,0,1,0,0,1,0,0])).drop 0) ((FF 193 d) |>.set 147 (d 14)) H K' =
  K' ((FF 193 d) |>.set 147 (d 14) |>.set 14 (.bool false)) H := by kernel_rfl
theorem s23_26 : gOps Try.prog 0 call (opsAt (fAt Try.f23 [1,1,1,1,1,1,0,1,0,0,1,0,1,0])) ((opsAt (fAt Try.f23 [1,1,1,1,1,1,0,1,0,0,1,0,1,0])).drop 0) ((FF 193 d) |>.set 147 (d 14) |>.set 14 (.bool false)) H K' =
  K' ((FF 193 d) |>.set 147 (d 14) |>.set 14 (.bool false) |>.set 15 (.int .i64 6)) H := by kernel_rfl
theorem s23_27 : gOps Try.prog 0 call (opsAt (fAt Try.f23 [1,1,1,0,1,0,0,1,0,0,1,0,0,1,0,0,1,0,0])) ((opsAt (fAt Try.f23 [1,1,1,0,1,0,0,1,0,0,1,0,0,1,0,0,1,0,0])).drop 10) ((FF 193 d) |>.set 50 (.bool true)) H K' =
  K' ((FF 193 d) |>.set 50 (.bool true) |>.set 51 undef |>.set 52 undef |>.set 53 undef |>.set 54 undef |>.set 55 undef |>.set 56 undef |>.set 57 undef |>.set 58 (.bool true)) H := by kernel_rfl
theorem s23_28 : gOps Try.prog 0 call (opsAt (fAt Try.f23 [1,1,1,0,1,0,0,1,0,0,1,0,0,1,0,0,1,0,1,0,0])) ((opsAt (fAt Try.f23 [1,1,1,0,1,0,0,1,0,0,1,0,0,1,0,0,1,0,1,0,0])).drop 0) ((FF 193 d) |>.set 50 (.bool true) |>.set 51 undef |>.set 52 undef |>.set 53 undef |>.set 54 undef |>.set 55 undef |>.set 56 undef |>.set 57 undef |>.set 58 (.bool true)) H K' =
  K' ((FF 193 d) |>.set 50 (.bool true) |>.set 51 undef |>.set 52 undef |>.set 53 undef |>.set 54 undef |>.set 55 undef |>.set 56 undef |>.set 57 undef |>.set 58 (.bool true) |>.set 2 (.int .i64 1)) H := by kernel_rfl
theorem s23_29 : gOps Try.prog 0 call (opsAt (fAt Try.f23 [1,1,1,0,1,0,0,1,0,0,1,0,0,1,0,0,1,0,0])) (((opsAt (fAt Try.f23 [1,1,1,0,1,0,0,1,0,0,1,0,0,1,0,0,1,0,0])).drop 10).take 3) ((FF 193 d) |>.set 50 (.bool false)) H K' =
  onV ((oBin Try.prog .eql 3 (d 5) (.int .i64 0)).filter closed) fun v1 =>
  onGrd true v1 (K' ((FF 193 d) |>.set 50 (.bool false) |>.set 51 (d 5) |>.set 52 v1 |>.set 53 v1) H) := by kernel_rfl
theorem s23_30 : gOps Try.prog 0 call (opsAt (fAt Try.f23 [1,1,1,1,1,1,0,1,0,0,1,0,1,1,0,0,0,0])) ((opsAt (fAt Try.f23 [1,1,1,1,1,1,0,1,0,0,1,0,1,1,0,0,0,0])).drop 0) (FF 193 d) H K' =
  onV ((oBin Try.prog .geq 3 (d 15) (.int .i64 1)).filter closed) fun v1 =>
  K' ((FF 193 d) |>.set 148 (d 15) |>.set 149 v1) H := by kernel_rfl
theorem s23_31 : gOps Try.prog 0 call (opsAt (fAt Try.f23 [1,1,1,1,1,1,0,1,0,0,1,0,1,1,0,0,1,0,0,0])) ((opsAt (fAt Try.f23 [1,1,1,1,1,1,0,1,0,0,1,0,1,1,0,0,1,0,0,0])).drop 0) ((FF 193 d) |>.set 148 (d 15) |>.set 149 v1) H K' =
  onV ((oConvert Try.prog 3 5 (d 15)).filter closed) fun v2 =>
  onV (oIndexAddr Try.prog 160 (d 13) (d 15)) fun v3 =>
  onV (gLoad Try.prog 3 v3 H) fun v4 =>
  onV (oBuild Try.prog 29 [(0, v2), (1, v4)]) fun v5 =>
  onH (gStore Try.prog 29 (.pointer (some ⟨H.n, 0, none⟩)) v5 (GH.push H (.row [(.int .u8 0), (.int .i64 0)] 29 false))) fun H6 =>
  K' ((FF 193 d) |>.set 148 (d 15) |>.set 149 v1 |>.set 152 (d 15) |>.set 153 v2 |>.set 154 (d 15) |>.set 155 v3 |>.set 156 v4 |>.set 157 v5 |>.set 16 (.pointer (some ⟨H.n, 0, none⟩))) H6 := by kernel_rfl
theorem s23_32 : gOps Try.prog 0 call (opsAt (fAt Try.f23 [1,1,1,1,1,1,1,0,0])) ((opsAt (fAt Try.f23 [1,1,1,1,1,1,1,0,0])).drop 0) (FF 193 d) H K' =
  K' ((FF 193 d) |>.set 17 (.int .i64 1)) H := by kernel_rfl
theorem s23_33 : gOps Try.prog 0 call (opsAt (fAt Try.f23 [1,1,1,0,1,0,0,1,0,0,1,0,0,1,0,0,1,0,0])) ((opsAt (fAt Try.f23 [1,1,1,0,1,0,0,1,0,0,1,0,0,1,0,0,1,0,0])).drop 13) ((FF 193 d) |>.set 50 (.bool false) |>.set 53 (.bool true)) H K' =
  onV (oFieldAddr Try.prog 62 (d 6) 1) fun v1 =>
  onV (gLoad Try.prog 4 v1 H) fun v2 =>
  onV ((oUn Try.prog .not v2).filter closed) fun v3 =>
  K' ((FF 193 d) |>.set 50 (.bool false) |>.set 53 (.bool true) |>.set 54 v1 |>.set 55 v2 |>.set 56 v3 |>.set 57 v3 |>.set 58 v3) H := by kernel_rfl
theorem s23_34 : gOps Try.prog 0 call (opsAt (fAt Try.f23 [1,1,1,0,1,0,0,1,0,0,1,0,0,1,0,0,1,0,1,0,0])) ((opsAt (fAt Try.f23 [1,1,1,0,1,0,0,1,0,0,1,0,0,1,0,0,1,0,1,0,0])).drop 0) ((FF 193 d) |>.set 50 (.bool false) |>.set 53 (.bool true) |>.set 54 v1 |>.set 55 v2 |>.set 56 v3 |>.set 57 v3 |>.set 58 v3) H K' =
  K' ((FF 193 d) |>.set 50 (.bool false) |>.set 53 (.bool true) |>.set 54 v1 |>.set 55 v2 |>.set 56 v3 |>.set 57 v3 |>.set 58 v3 |>.set 2 (.int .i64 1)) H := by kernel_rfl
theorem s23_35 : gOps Try.prog 0 call (opsAt (fAt Try.f23 [1,1,1,0,1,0,0,1,0,0,1,0,0,1,0,0,1,1,0,0])) ((opsAt (fAt Try.f23 [1,1,1,0,1,0,0,1,0,0,1,0,0,1,0,0,1,1,0,0])).drop 0) ((FF 193 d) |>.set 50 (.bool false) |>.set 53 (.bool true) |>.set 54 v1 |>.set 55 v2 |>.set 56 v3 |>.set 57 v3 |>.set 58 v3) H K' =
  K' ((FF 193 d) |>.set 50 (.bool false) |>.set 53 (.bool true) |>.set 54 v1 |>.set 55 v2 |>.set 56 v3 |>.set 57 v3 |>.set 58 v3 |>.set 7 (.int .i64 0)) H := by kernel_rfl
theorem s23_36 : gOps Try.prog 0 call (opsAt (fAt Try.f23 [1,1,1,0,1,0,0,1,0,0,1,0,0,1,0,0,1,0,0])) ((opsAt (fAt Try.f23 [1,1,1,0,1,0,0,1,0,0,1,0,0,1,0,0,1,0,0])).drop 13) ((FF 193 d) |>.set 50 (.bool false) |>.set 53 (.bool false)) H K' =
  K' ((FF 193 d) |>.set 50 (.bool false) |>.set 53 (.bool false) |>.set 54 undef |>.set 55 undef |>.set 56 undef |>.set 57 (.bool false) |>.set 58 (.bool false)) H := by kernel_rfl
theorem s23_37 : gOps Try.prog 0 call (opsAt (fAt Try.f23 [1,1,1,0,1,0,0,1,0,0,1,0,0,1,0,0,1,1,0,0])) ((opsAt (fAt Try.f23 [1,1,1,0,1,0,0,1,0,0,1,0,0,1,0,0,1,1,0,0])).drop 0) ((FF 193 d) |>.set 50 (.bool false) |>.set 53 (.bool false) |>.set 54 undef |>.set 55 undef |>.set 56 undef |>.set 57 (.bool false) |>.set 58 (.bool false)) H K' =
  K' ((FF 193 d) |>.set 50 (.bool false) |>.set 53 (.bool false) |>.set 54 undef |>.set 55 undef |>.set 56 undef |>.set 57 (.bool false) |>.set 58 (.bool false) |>.set 7 (.int .i64 0)) H := by kernel_rfl
theorem s23_38 : gOps Try.prog 1 call (opsAt (fAt Try.f23 [1,1,1,1,1,1,0,1,0,0,1,0,1,1,0,0,1,0,0,1,0])) (((opsAt (fAt Try.f23 [1,1,1,1,1,1,0,1,0,0,1,0,1,1,0,0,1,0,0,1,0])).drop 0).take 10) (FF 193 d) H K' =
  onV (oFieldAddr Try.prog 29 (d 16) 1) fun v1 =>
  onV (gLoad Try.prog 3 v1 H) fun v2 =>
  onV ((oBin Try.prog .sub 3 (d 15) (.int .i64 1)).filter closed) fun v3 =>
  onV (oIndexAddr Try.prog 58 (d 0) v3) fun v4 =>
  onV (gLoad Try.prog 59 v4 H) fun v5 =>
  onV (oLen Try.prog 59 v5) fun v6 =>
  onV ((oBin Try.prog .lss 3 v2 v6).filter closed) fun v7 =>
  onGrd true v7 (K' ((FF 193 d) |>.set 158 v1 |>.set 159 v2 |>.set 160 (d 0) |>.set 161 (d 15) |>.set 162 v3 |>.set 163 v4 |>.set 164 v5 |>.set 165 v6 |>.set 166 v7 |>.set 167 v7) H) := by kernel_rfl
theorem s23_39 : gOps Try.prog 0 call (opsAt (fAt Try.f23 [1,1,1,1,1,1,1,0,1,0,0,0,0])) ((opsAt (fAt Try.f23 [1,1,1,1,1,1,1,0,1,0,0,0,0])).drop 0) (FF 193 d) H K' =
  onV ((oBin Try.prog .leq 3 (d 17) (.int .i64 6)).filter closed) fun v1 =>
  K' ((FF 193 d) |>.set 179 (d 17) |>.set 180 v1) H := by kernel_rfl
theorem s23_40 : gOps Try.prog 1 call (opsAt (fAt Try.f23 [1,1,1,1,1,1,1,0,1,0,0,1,0,0,0])) ((opsAt (fAt Try.f23 [1,1,1,1,1,1,1,0,1,0,0,1,0,0,0])).drop 0) ((FF 193 d) |>.set 179 (d 17) |>.set 180 v1) H K' =
  onV (oIndexAddr Try.prog 160 (d 13) (d 17)) fun v2 =>
  onV (gLoad Try.prog 3 v2 H) fun v3 =>
  onV ((oBin Try.prog .sub 3 (d 17) (.int .i64 1)).filter closed) fun v4 =>
  onV (oIndexAddr Try.prog 58 (d 0) v4) fun v5 =>
  onV (gLoad Try.prog 59 v5 H) fun v6 =>
  onV (oLen Try.prog 59 v6) fun v7 =>
  onV ((oBin Try.prog .neq 3 v3 v7).filter closed) fun v8 =>
  K' ((FF 193 d) |>.set 179 (d 17) |>.set 180 v1 |>.set 183 (d 17) |>.set 184 v2 |>.set 185 v3 |>.set 186 (d 0) |>.set 187 (d 17) |>.set 188 v4 |>.set 189 v5 |>.set 190 v6 |>.set 191 v7 |>.set 192 v8) H := by kernel_rfl
theorem s23_41 : gOps Try.prog 0 call (opsAt (fAt Try.f23 [1,1,1,1,1,1,1,0,1,0,0,1,0,0,1,0,0])) ((opsAt (fAt Try.f23 [1,1,1,1,1,1,1,0,1,0,0,1,0,0,1,0,0])).drop 0) ((FF 193 d) |>.set 179 (d 17) |>.set 180 v1 |>.set 183 (d 17) |>.set 184 v2 |>.set 185 v3 |>.set 186 (d 0) |>.set 187 (d 17) |>.set 188 v4 |>.set 189 v5 |>.set 190 v6 |>.set 191 v7 |>.set 192 v8) H K' =
  K' ((FF 193 d) |>.set 179 (d 17) |>.set 180 v1 |>.set 183 (d 17) |>.set 184 v2 |>.set 185 v3 |>.set 186 (d 0) |>.set 187 (d 17) |>.set 188 v4 |>.set 189 v5 |>.set 190 v6 |>.set 191 v7 |>.set 192 v8 |>.set 2 (.int .i64 6)) H := by kernel_rfl
theorem s23_42 : gOps Try.prog 0 call (opsAt (fAt Try.f23 [1,1,1,1,1,1,1,0,1,0,0,1,1])) ((opsAt (fAt Try.f23 [1,1,1,1,1,1,1,0,1,0,0,1,1])).drop 0) ((FF 193 d) |>.set 179 (d 17) |>.set 180 v1 |>.set 183 (d 17) |>.set 184 v2 |>.set 185 v3 |>.set 186 (d 0) |>.set 187 (d 17) |>.set 188 v4 |>.set 189 v5 |>.set 190 v6 |>.set 191 v7 |>.set 192 v8) H K' =
  onV ((oBin Try.prog .add 3 (d 17) (.int .i64 1)).filter closed) fun v9 =>
  K' ((FF 193 d) |>.set 179 (d 17) |>.set 180 v1 |>.set 183 (d 17) |>.set 184 v2 |>.set 185 v3 |>.set 186 (d 0) |>.set 187 (d 17) |>.set 188 v4 |>.set 189 v5 |>.set 190 v6 |>.set 191 v7 |>.set 192 v8 |>.set 181 (d 17) |>.set 182 v9 |>.set 17 v9) H := by kernel_rfl
theorem s23_43 : gOps Try.prog 0 call (opsAt (fAt Try.f23 [1,1,1,1,1,1,1,1,0])) ((opsAt (fAt Try.f23 [1,1,1,1,1,1,1,1,0])).drop 0) ((FF 193 d) |>.set 179 (d 17) |>.set 180 v1) H K' =
  K' ((FF 193 d) |>.set 179 (d 17) |>.set 180 v1 |>.set 2 (.int .i64 0)) H := by kernel_rfl
theorem s23_44 : gOps Try.prog 0 call (opsAt (fAt Try.f23 [1,1,1,0,1,0,0,1,0,0,1,0,0,1,0,0,1,1,0,1,0,0,0,0])) ((opsAt (fAt Try.f23 [1,1,1,0,1,0,0,1,0,0,1,0,0,1,0,0,1,1,0,1,0,0,0,0])).drop 0) (FF 193 d) H K' =
  onV (oFieldAddr Try.prog 62 (d 6) 3) fun v1 =>
  onV (gLoad Try.prog 60 v1 H) fun v2 =>
  onV (oLen Try.prog 60 v2) fun v3 =>
  onV ((oBin Try.prog .lss 3 (d 7) v3).filter closed) fun v4 =>
  K' ((FF 193 d) |>.set 59 (d 7) |>.set 60 v1 |>.set 61 v2 |>.set 62 v3 |>.set 63 v4) H := by kernel_rfl
theorem s23_45 : gOps Try.prog 0 call (opsAt (fAt Try.f23 [1,1,1,0,1,0,0,1,0,0,1,0,0,1,0,0,1,1,0,1,0,0,1,0,0,0])) ((opsAt (fAt Try.f23 [1,1,1,0,1,0,0,1,0,0,1,0,0,1,0,0,1,1,0,1,0,0,1,0,0,0])).drop 0) ((FF 193 d) |>.set 59 (d 7) |>.set 60 v1 |>.set 61 v2 |>.set 62 v3 |>.set 63 v4) H K' =
  onV (oFieldAddr Try.prog 62 (d 6) 3) fun v5 =>
  onV (gLoad Try.prog 60 v5 H) fun v6 =>
  onV (oIndexAddr Try.prog 60 v6 (d 7)) fun v7 =>
  onV (gLoad Try.prog 157 v7 H) fun v8 =>
  onH (gStore Try.prog 157 (.pointer (some ⟨H.n, 0, none⟩)) v8 (GH.push H (.row [(.int .u8 0), (.int .i64 0), (.bool false), (.int .u8 0)] 157 false))) fun H9 =>
  K' ((FF 193 d) |>.set 59 (d 7) |>.set 60 v1 |>.set 61 v2 |>.set 62 v3 |>.set 63 v4 |>.set 66 v5 |>.set 67 v6 |>.set 68 (d 7) |>.set 69 v7 |>.set 70 v8 |>.set 8 (.pointer (some ⟨H.n, 0, none⟩))) H9 := by kernel_rfl
theorem s23_46 : gOps Try.prog 1 call (opsAt (fAt Try.f23 [1,1,1,1,1,1,0,1,0,0,1,0,1,1,0,0,1,0,0,1,0])) ((opsAt (fAt Try.f23 [1,1,1,1,1,1,0,1,0,0,1,0,1,1,0,0,1,0,0,1,0])).drop 10) ((FF 193 d) |>.set 167 (.bool true)) H K' =
  onV (gLoad Try.prog 29 (d 16) H) fun v1 =>
  onV (gLoad Try.prog 160 (d 13) H) fun v2 =>
  onCall 1 call (.func (.func 75) #[] #[]) [(d 0), v1, v2] H fun v3 H4 =>
  onV ((oBin Try.prog .eql 3 v3 (.int .i64 0)).filter closed) fun v5 =>
  K' ((FF 193 d) |>.set 167 (.bool true) |>.set 168 (d 0) |>.set 169 v1 |>.set 170 v2 |>.set 171 v3 |>.set 172 v5 |>.set 173 v5) H4 := by kernel_rfl
theorem s23_47 : gOps Try.prog 0 call (opsAt (fAt Try.f23 [1,1,1,1,1,1,0,1,0,0,1,0,1,1,0,0,1,0,0,1,1,0,0])) ((opsAt (fAt Try.f23 [1,1,1,1,1,1,0,1,0,0,1,0,1,1,0,0,1,0,0,1,1,0,0])).drop 0) ((FF 193 d) |>.set 167 (.bool true) |>.set 168 (d 0) |>.set 169 v1 |>.set 170 v2 |>.set 171 v3 |>.set 172 v5 |>.set 173 v5) H4 K' =
  onV (oIndexAddr Try.prog 160 (d 13) (d 15)) fun v6 =>
  onV (gLoad Try.prog 3 v6 H4) fun v7 =>
  onV ((oBin Try.prog .add 3 v7 (.int .i64 1)).filter closed) fun v8 =>
  onV (oIndexAddr Try.prog 160 (d 13) (d 15)) fun v9 =>
  onH (gStore Try.prog 3 v9 v8 H4) fun H10 =>
  K' ((FF 193 d) |>.set 167 (.bool true) |>.set 168 (d 0) |>.set 169 v1 |>.set 170 v2 |>.set 171 v3 |>.set 172 v5 |>.set 173 v5 |>.set 174 (d 15) |>.set 175 v6 |>.set 176 v7 |>.set 177 v8 |>.set 178 v9) H10 := by kernel_rfl
theorem s23_48 : gOps Try.prog 0 call (opsAt (fAt Try.f23 [1,1,1,1,1,1,0,1,0,0,1,0,1,1,0,0,1,0,0,1,1,0,1])) ((opsAt (fAt Try.f23 [1,1,1,1,1,1,0,1,0,0,1,0,1,1,0,0,1,0,0,1,1,0,1])).drop 0) ((FF 193 d) |>.set 167 (.bool true) |>.set 168 (d 0) |>.set 169 v1 |>.set 170 v2 |>.set 171 v3 |>.set 172 v5 |>.set 173 v5 |>.set 174 (d 15) |>.set 175 v6 |>.set 176 v7 |>.set 177 v8 |>.set 178 v9) H10 K' =
  K' ((FF 193 d) |>.set 167 (.bool true) |>.set 168 (d 0) |>.set 169 v1 |>.set 170 v2 |>.set 171 v3 |>.set 172 v5 |>.set 173 v5 |>.set 174 (d 15) |>.set 175 v6 |>.set 176 v7 |>.set 177 v8 |>.set 178 v9 |>.set 14 (.bool true)) H10 := by kernel_rfl
theorem s23_49 : gOps Try.prog 0 call (opsAt (fAt Try.f23 [1,1,1,1,1,1,0,1,0,0,1,0,1,1,0,0,1,1])) ((opsAt (fAt Try.f23 [1,1,1,1,1,1,0,1,0,0,1,0,1,1,0,0,1,1])).drop 0) ((FF 193 d) |>.set 167 (.bool true) |>.set 168 (d 0) |>.set 169 v1 |>.set 170 v2 |>.set 171 v3 |>.set 172 v5 |>.set 173 v5) H4 K' =
  onV ((oBin Try.prog .sub 3 (d 15) (.int .i64 1)).filter closed) fun v11 =>
  K' ((FF 193 d) |>.set 167 (.bool true) |>.set 168 (d 0) |>.set 169 v1 |>.set 170 v2 |>.set 171 v3 |>.set 172 v5 |>.set 173 v5 |>.set 150 (d 15) |>.set 151 v11 |>.set 15 v11) H4 := by kernel_rfl
theorem s23_50 : gOps Try.prog 1 call (opsAt (fAt Try.f23 [1,1,1,1,1,1,0,1,0,0,1,0,1,1,0,0,1,0,0,1,0])) ((opsAt (fAt Try.f23 [1,1,1,1,1,1,0,1,0,0,1,0,1,1,0,0,1,0,0,1,0])).drop 10) ((FF 193 d) |>.set 167 (.bool false)) H K' =
  K' ((FF 193 d) |>.set 167 (.bool false) |>.set 168 undef |>.set 169 undef |>.set 170 undef |>.set 171 undef |>.set 172 undef |>.set 173 (.bool false)) H := by kernel_rfl
theorem s23_51 : gOps Try.prog 0 call (opsAt (fAt Try.f23 [1,1,1,1,1,1,0,1,0,0,1,0,1,1,0,0,1,1])) ((opsAt (fAt Try.f23 [1,1,1,1,1,1,0,1,0,0,1,0,1,1,0,0,1,1])).drop 0) ((FF 193 d) |>.set 167 (.bool false) |>.set 168 undef |>.set 169 undef |>.set 170 undef |>.set 171 undef |>.set 172 undef |>.set 173 (.bool false)) H K' =
  onV ((oBin Try.prog .sub 3 (d 15) (.int .i64 1)).filter closed) fun v1 =>
  K' ((FF 193 d) |>.set 167 (.bool false) |>.set 168 undef |>.set 169 undef |>.set 170 undef |>.set 171 undef |>.set 172 undef |>.set 173 (.bool false) |>.set 150 (d 15) |>.set 151 v1 |>.set 15 v1) H := by kernel_rfl
theorem s23_52 : gOps Try.prog 0 call (opsAt (fAt Try.f23 [1,1,1,0,1,0,0,1,0,0,1,0,0,1,0,0,1,1,0,1,0,0,1,0,0,1,0,0])) (((opsAt (fAt Try.f23 [1,1,1,0,1,0,0,1,0,0,1,0,0,1,0,0,1,1,0,1,0,0,1,0,0,1,0,0])).drop 0).take 4) (FF 193 d) H K' =
  onV (oFieldAddr Try.prog 157 (d 8) 2) fun v1 =>
  onV (gLoad Try.prog 155 v1 H) fun v2 =>
  onV ((oBin Try.prog .gtr 155 v2 (.int .u8 1)).filter closed) fun v3 =>
  onGrd true v3 (K' ((FF 193 d) |>.set 71 v1 |>.set 72 v2 |>.set 73 v3 |>.set 74 v3) H) := by kernel_rfl
theorem s23_53 : gOps Try.prog 0 call (opsAt (fAt Try.f23 [1,1,1,0,1,0,0,1,0,0,1,0,0,1,0,0,1,1,1,0,0])) ((opsAt (fAt Try.f23 [1,1,1,0,1,0,0,1,0,0,1,0,0,1,0,0,1,1,1,0,0])).drop 0) (FF 193 d) H K' =
  K' ((FF 193 d) |>.set 10 (.int .i64 0)) H := by kernel_rfl
theorem s23_54 : gOps Try.prog 0 call (opsAt (fAt Try.f23 [1,1,1,1,1,1,0,1,0,0,1,0,1,1,0,0,1,1])) ((opsAt (fAt Try.f23 [1,1,1,1,1,1,0,1,0,0,1,0,1,1,0,0,1,1])).drop 0) (FF 193 d) H K' =
  onV ((oBin Try.prog .sub 3 (d 15) (.int .i64 1)).filter closed) fun v1 =>
  K' ((FF 193 d) |>.set 150 (d 15) |>.set 151 v1 |>.set 15 v1) H := by kernel_rfl
theorem s23_55 : gOps Try.prog 0 call (opsAt (fAt Try.f23 [1,1,1,0,1,0,0,1,0,0,1,0,0,1,0,0,1,1,0,1,0,0,1,0,0,1,0,0])) ((opsAt (fAt Try.f23 [1,1,1,0,1,0,0,1,0,0,1,0,0,1,0,0,1,1,0,1,0,0,1,0,0,1,0,0])).drop 4) ((FF 193 d) |>.set 74 (.bool true)) H K' =
  K' ((FF 193 d) |>.set 74 (.bool true) |>.set 75 undef |>.set 76 undef |>.set 77 undef |>.set 78 undef |>.set 79 undef |>.set 80 (.bool true)) H := by kernel_rfl
theorem s23_56 : gOps Try.prog 0 call (opsAt (fAt Try.f23 [1,1,1,0,1,0,0,1,0,0,1,0,0,1,0,0,1,1,0,1,0,0,1,0,0,1,0,1,0,0])) ((opsAt (fAt Try.f23 [1,1,1,0,1,0,0,1,0,0,1,0,0,1,0,0,1,1,0,1,0,0,1,0,0,1,0,1,0,0])).drop 0) ((FF 193 d) |>.set 74 (.bool true) |>.set 75 undef |>.set 76 undef |>.set 77 undef |>.set 78 undef |>.set 79 undef |>.set 80 (.bool true)) H K' =
  K' ((FF 193 d) |>.set 74 (.bool true) |>.set 75 undef |>.set 76 undef |>.set 77 undef |>.set 78 undef |>.set 79 undef |>.set 80 (.bool true) |>.set 2 (.int .i64 1)) H := by kernel_rfl
theorem s23_57 : gOps Try.prog 0 call (opsAt (fAt Try.f23 [1,1,1,0,1,0,0,1,0,0,1,0,0,1,0,0,1,1,0,1,0,0,1,0,0,1,0,0])) ((opsAt (fAt Try.f23 [1,1,1,0,1,0,0,1,0,0,1,0,0,1,0,0,1,1,0,1,0,0,1,0,0,1,0,0])).drop 4) ((FF 193 d) |>.set 74 (.bool false)) H K' =
  onV (oFieldAddr Try.prog 157 (d 8) 0) fun v1 =>
  onV (gLoad Try.prog 29 v1 H) fun v2 =>
  onCall 0 call (.func (.func 74) #[] #[]) [(d 0), v2] H fun v3 H4 =>
  onV ((oUn Try.prog .not v3).filter closed) fun v5 =>
  K' ((FF 193 d) |>.set 74 (.bool false) |>.set 75 (d 0) |>.set 76 v1 |>.set 77 v2 |>.set 78 v3 |>.set 79 v5 |>.set 80 v5) H4 := by kernel_rfl
theorem s23_58 : gOps Try.prog 0 call (opsAt (fAt Try.f23 [1,1,1,0,1,0,0,1,0,0,1,0,0,1,0,0,1,1,0,1,0,0,1,0,0,1,0,1,0,0])) ((opsAt (fAt Try.f23 [1,1,1,0,1,0,0,1,0,0,1,0,0,1,0,0,1,1,0,1,0,0,1,0,0,1,0,1,0,0])).drop 0) ((FF 193 d) |>.set 74 (.bool false) |>.set 75 (d 0) |>.set 76 v1 |>.set 77 v2 |>.set 78 v3 |>.set 79 v5 |>.set 80 v5) H4 K' =
  K' ((FF 193 d) |>.set 74 (.bool false) |>.set 75 (d 0) |>.set 76 v1 |>.set 77 v2 |>.set 78 v3 |>.set 79 v5 |>.set 80 v5 |>.set 2 (.int .i64 1)) H4 := by kernel_rfl
theorem s23_59 : gOps Try.prog 0 call (opsAt (fAt Try.f23 [1,1,1,0,1,0,0,1,0,0,1,0,0,1,0,0,1,1,0,1,0,0,1,0,0,1,1,0])) ((opsAt (fAt Try.f23 [1,1,1,0,1,0,0,1,0,0,1,0,0,1,0,0,1,1,0,1,0,0,1,0,0,1,1,0])).drop 0) ((FF 193 d) |>.set 74 (.bool false) |>.set 75 (d 0) |>.set 76 v1 |>.set 77 v2 |>.set 78 v3 |>.set 79 v5 |>.set 80 v5) H4 K' =
  onV ((oBin Try.prog .gtr 3 (d 7) (.int .i64 0)).filter closed) fun v6 =>
  K' ((FF 193 d) |>.set 74 (.bool false) |>.set 75 (d 0) |>.set 76 v1 |>.set 77 v2 |>.set 78 v3 |>.set 79 v5 |>.set 80 v5 |>.set 81 (d 7) |>.set 82 v6) H4 := by kernel_rfl
theorem s23_60 : gOps Try.prog 0 call (opsAt (fAt Try.f23 [1,1,1,0,1,0,0,1,0,0,1,0,0,1,0,0,1,1,0,1,0,0,1,1])) ((opsAt (fAt Try.f23 [1,1,1,0,1,0,0,1,0,0,1,0,0,1,0,0,1,1,0,1,0,0,1,1])).drop 0) ((FF 193 d) |>.set 74 (.bool false) |>.set 75 (d 0) |>.set 76 v1 |>.set 77 v2 |>.set 78 v3 |>.set 79 v5 |>.set 80 v5 |>.set 81 (d 7) |>.set 82 v6) H4 K' =
  onV ((oBin Try.prog .add 3 (d 7) (.int .i64 1)).filter closed) fun v7 =>
  K' ((FF 193 d) |>.set 74 (.bool false) |>.set 75 (d 0) |>.set 76 v1 |>.set 77 v2 |>.set 78 v3 |>.set 79 v5 |>.set 80 v5 |>.set 81 (d 7) |>.set 82 v6 |>.set 64 (d 7) |>.set 65 v7 |>.set 7 v7) H4 := by kernel_rfl
theorem s23_61 : gOps Try.prog 0 call (opsAt (fAt Try.f23 [1,1,1,0,1,0,0,1,0,0,1,0,0,1,0,0,1,1,1,0,1,0,0,0,0])) ((opsAt (fAt Try.f23 [1,1,1,0,1,0,0,1,0,0,1,0,0,1,0,0,1,1,1,0,1,0,0,0,0])).drop 0) (FF 193 d) H K' =
  onV (oFieldAddr Try.prog 62 (d 6) 2) fun v1 =>
  onV (gLoad Try.prog 26 v1 H) fun v2 =>
  onV (oLen Try.prog 26 v2) fun v3 =>
  onV ((oBin Try.prog .lss 3 (d 10) v3).filter closed) fun v4 =>
  K' ((FF 193 d) |>.set 108 (d 10) |>.set 109 v1 |>.set 110 v2 |>.set 111 v3 |>.set 112 v4) H := by kernel_rfl
theorem s23_62 : gOps Try.prog 0 call (opsAt (fAt Try.f23 [1,1,1,0,1,0,0,1,0,0,1,0,0,1,0,0,1,1,1,0,1,0,0,1,0,0,0])) ((opsAt (fAt Try.f23 [1,1,1,0,1,0,0,1,0,0,1,0,0,1,0,0,1,1,1,0,1,0,0,1,0,0,0])).drop 0) ((FF 193 d) |>.set 108 (d 10) |>.set 109 v1 |>.set 110 v2 |>.set 111 v3 |>.set 112 v4) H K' =
  onV (oFieldAddr Try.prog 62 (d 6) 2) fun v5 =>
  onV (gLoad Try.prog 26 v5 H) fun v6 =>
  onV (oIndexAddr Try.prog 26 v6 (d 10)) fun v7 =>
  onV (gLoad Try.prog 29 v7 H) fun v8 =>
  onCall 0 call (.func (.func 74) #[] #[]) [(d 0), v8] H fun v9 H10 =>
  onV ((oUn Try.prog .not v9).filter closed) fun v11 =>
  K' ((FF 193 d) |>.set 108 (d 10) |>.set 109 v1 |>.set 110 v2 |>.set 111 v3 |>.set 112 v4 |>.set 115 (d 0) |>.set 116 v5 |>.set 117 v6 |>.set 118 (d 10) |>.set 119 v7 |>.set 120 v8 |>.set 121 v9 |>.set 122 v11) H10 := by kernel_rfl
theorem s23_63 : gOps Try.prog 0 call (opsAt (fAt Try.f23 [1,1,1,0,1,0,0,1,0,0,1,0,0,1,0,0,1,1,1,0,1,0,0,1,0,0,1,0,0])) ((opsAt (fAt Try.f23 [1,1,1,0,1,0,0,1,0,0,1,0,0,1,0,0,1,1,1,0,1,0,0,1,0,0,1,0,0])).drop 0) ((FF 193 d) |>.set 108 (d 10) |>.set 109 v1 |>.set 110 v2 |>.set 111 v3 |>.set 112 v4 |>.set 115 (d 0) |>.set 116 v5 |>.set 117 v6 |>.set 118 (d 10) |>.set 119 v7 |>.set 120 v8 |>.set 121 v9 |>.set 122 v11) H10 K' =
  K' ((FF 193 d) |>.set 108 (d 10) |>.set 109 v1 |>.set 110 v2 |>.set 111 v3 |>.set 112 v4 |>.set 115 (d 0) |>.set 116 v5 |>.set 117 v6 |>.set 118 (d 10) |>.set 119 v7 |>.set 120 v8 |>.set 121 v9 |>.set 122 v11 |>.set 2 (.int .i64 1)) H10 := by kernel_rfl
theorem s23_64 : gOps Try.prog 0 call (opsAt (fAt Try.f23 [1,1,1,0,1,0,0,1,0,0,1,0,0,1,0,0,1,1,0,1,0,0,1,0,0,1,1,1,0,0])) ((opsAt (fAt Try.f23 [1,1,1,0,1,0,0,1,0,0,1,0,0,1,0,0,1,1,0,1,0,0,1,0,0,1,1,1,0,0])).drop 0) (FF 193 d) H K' =
  onV (oFieldAddr Try.prog 62 (d 6) 3) fun v1 =>
  onV (gLoad Try.prog 60 v1 H) fun v2 =>
  onV ((oBin Try.prog .sub 3 (d 7) (.int .i64 1)).filter closed) fun v3 =>
  onV (oIndexAddr Try.prog 60 v2 v3) fun v4 =>
  onV (gLoad Try.prog 157 v4 H) fun v5 =>
  onH (gStore Try.prog 157 (.pointer (some ⟨H.n, 0, none⟩)) v5 (GH.push H (.row [(.int .u8 0), (.int .i64 0), (.bool false), (.int .u8 0)] 157 false))) fun H6 =>
  K' ((FF 193 d) |>.set 83 v1 |>.set 84 v2 |>.set 85 (d 7) |>.set 86 v3 |>.set 87 v4 |>.set 88 v5 |>.set 9 (.pointer (some ⟨H.n, 0, none⟩))) H6 := by kernel_rfl
theorem s23_65 : gOps Try.prog 0 call (opsAt (fAt Try.f23 [1,1,1,0,1,0,0,1,0,0,1,0,0,1,0,0,1,1,1,0,1,0,0,1,1])) ((opsAt (fAt Try.f23 [1,1,1,0,1,0,0,1,0,0,1,0,0,1,0,0,1,1,1,0,1,0,0,1,1])).drop 0) (FF 193 d) H K' =
  onV ((oBin Try.prog .add 3 (d 10) (.int .i64 1)).filter closed) fun v1 =>
  K' ((FF 193 d) |>.set 113 (d 10) |>.set 114 v1 |>.set 10 v1) H := by kernel_rfl
theorem s23_66 : gOps Try.prog 0 call (opsAt (fAt Try.f23 [1,1,1,0,1,0,0,1,0,0,1,0,0,1,0,0,1,1,1,1])) ((opsAt (fAt Try.f23 [1,1,1,0,1,0,0,1,0,0,1,0,0,1,0,0,1,1,1,1])).drop 0) (FF 193 d) H K' =
  onV (oFieldAddr Try.prog 62 (d 6) 2) fun v1 =>
  onV (gLoad Try.prog 26 v1 H) fun v2 =>
  onVH (gAppend Try.prog 26 26 (d 3) v2 H) fun v3 H4 =>
  K' ((FF 193 d) |>.set 123 (d 3) |>.set 124 v1 |>.set 125 v2 |>.set 126 v3 |>.set 3 v3) H4 := by kernel_rfl
theorem s23_67 : gOps Try.prog 0 call (opsAt (fAt Try.f23 [1,1,1,0,1,0,0,1,0,0,1,0,0,1,1])) ((opsAt (fAt Try.f23 [1,1,1,0,1,0,0,1,0,0,1,0,0,1,1])).drop 0) ((FF 193 d) |>.set 123 (d 3) |>.set 124 v1 |>.set 125 v2 |>.set 126 v3 |>.set 3 v3) H4 K' =
  onV ((oBin Try.prog .add 3 (d 5) (.int .i64 1)).filter closed) fun v5 =>
  K' ((FF 193 d) |>.set 123 (d 3) |>.set 124 v1 |>.set 125 v2 |>.set 126 v3 |>.set 3 v3 |>.set 32 (d 5) |>.set 33 v5 |>.set 5 v5) H4 := by kernel_rfl
theorem s23_68 : gOps Try.prog 0 call (opsAt (fAt Try.f23 [1,1,1,0,1,0,0,1,0,0,1,0,0,1,0,0,1,1,0,1,0,0,1,0,0,1,1,1,0,1,0])) (((opsAt (fAt Try.f23 [1,1,1,0,1,0,0,1,0,0,1,0,0,1,0,0,1,1,0,1,0,0,1,0,0,1,1,1,0,1,0])).drop 0).take 6) (FF 193 d) H K' =
  onV (oFieldAddr Try.prog 157 (d 9) 0) fun v1 =>
  onV (gLoad Try.prog 29 v1 H) fun v2 =>
  onV (oFieldAddr Try.prog 157 (d 8) 0) fun v3 =>
  onV (gLoad Try.prog 29 v3 H) fun v4 =>
  onV ((oBin Try.prog .eql 29 v2 v4).filter closed) fun v5 =>
  onGrd true v5 (K' ((FF 193 d) |>.set 89 v1 |>.set 90 v2 |>.set 91 v3 |>.set 92 v4 |>.set 93 v5 |>.set 94 v5) H) := by kernel_rfl
theorem s23_69 : gOps Try.prog 0 call (opsAt (fAt Try.f23 [1,1,1,0,1,0,0,1,0,0,1,0,0,1,0,0,1,1,0,1,0,0,1,0,0,1,1,1,0,1,0])) (((opsAt (fAt Try.f23 [1,1,1,0,1,0,0,1,0,0,1,0,0,1,0,0,1,1,0,1,0,0,1,0,0,1,1,1,0,1,0])).drop 6).take 7) ((FF 193 d) |>.set 94 (.bool true)) H K' =
  onV (oFieldAddr Try.prog 157 (d 9) 1) fun v1 =>
  onV (gLoad Try.prog 4 v1 H) fun v2 =>
  onV (oFieldAddr Try.prog 157 (d 8) 1) fun v3 =>
  onV (gLoad Try.prog 4 v3 H) fun v4 =>
  onV ((oBin Try.prog .eql 4 v2 v4).filter closed) fun v5 =>
  onGrd true v5 (K' ((FF 193 d) |>.set 94 (.bool true) |>.set 95 v1 |>.set 96 v2 |>.set 97 v3 |>.set 98 v4 |>.set 99 v5 |>.set 100 v5 |>.set 101 v5) H) := by kernel_rfl
theorem s23_70 : gOps Try.prog 0 call (opsAt (fAt Try.f23 [1,1,1,0,1,0,0,1,0,0,1,0,0,1,0,0,1,1,0,1,0,0,1,0,0,1,1,1,0,1,0])) ((opsAt (fAt Try.f23 [1,1,1,0,1,0,0,1,0,0,1,0,0,1,0,0,1,1,0,1,0,0,1,0,0,1,1,1,0,1,0])).drop 6) ((FF 193 d) |>.set 94 (.bool false)) H K' =
  K' ((FF 193 d) |>.set 94 (.bool false) |>.set 95 undef |>.set 96 undef |>.set 97 undef |>.set 98 undef |>.set 99 undef |>.set 100 (.bool false) |>.set 101 (.bool false) |>.set 102 undef |>.set 103 undef |>.set 104 undef |>.set 105 undef |>.set 106 undef |>.set 107 (.bool false)) H := by kernel_rfl
theorem s23_71 : gOps Try.prog 0 call (opsAt (fAt Try.f23 [1,1,1,0,1,0,0,1,0,0,1,0,0,1,0,0,1,1,0,1,0,0,1,0,0,1,1,1,0,1,0])) ((opsAt (fAt Try.f23 [1,1,1,0,1,0,0,1,0,0,1,0,0,1,0,0,1,1,0,1,0,0,1,0,0,1,1,1,0,1,0])).drop 13) ((FF 193 d) |>.set 101 (.bool true)) H K' =
  onV (oFieldAddr Try.prog 157 (d 9) 2) fun v1 =>
  onV (gLoad Try.prog 155 v1 H) fun v2 =>
  onV (oFieldAddr Try.prog 157 (d 8) 2) fun v3 =>
  onV (gLoad Try.prog 155 v3 H) fun v4 =>
  onV ((oBin Try.prog .neq 155 v2 v4).filter closed) fun v5 =>
  K' ((FF 193 d) |>.set 101 (.bool true) |>.set 102 v1 |>.set 103 v2 |>.set 104 v3 |>.set 105 v4 |>.set 106 v5 |>.set 107 v5) H := by kernel_rfl
theorem s23_72 : gOps Try.prog 0 call (opsAt (fAt Try.f23 [1,1,1,0,1,0,0,1,0,0,1,0,0,1,0,0,1,1,0,1,0,0,1,0,0,1,1,1,0,1,1,0,0])) ((opsAt (fAt Try.f23 [1,1,1,0,1,0,0,1,0,0,1,0,0,1,0,0,1,1,0,1,0,0,1,0,0,1,1,1,0,1,1,0,0])).drop 0) ((FF 193 d) |>.set 101 (.bool true) |>.set 102 v1 |>.set 103 v2 |>.set 104 v3 |>.set 105 v4 |>.set 106 v5 |>.set 107 v5) H K' =
  K' ((FF 193 d) |>.set 101 (.bool true) |>.set 102 v1 |>.set 103 v2 |>.set 104 v3 |>.set 105 v4 |>.set 106 v5 |>.set 107 v5 |>.set 2 (.int .i64 1)) H := by kernel_rfl
theorem s23_73 : gOps Try.prog 0 call (opsAt (fAt Try.f23 [1,1,1,0,1,0,0,1,0,0,1,0,0,1,0,0,1,1,0,1,0,0,1,1])) ((opsAt (fAt Try.f23 [1,1,1,0,1,0,0,1,0,0,1,0,0,1,0,0,1,1,0,1,0,0,1,1])).drop 0) ((FF 193 d) |>.set 101 (.bool true) |>.set 102 v1 |>.set 103 v2 |>.set 104 v3 |>.set 105 v4 |>.set 106 v5 |>.set 107 v5) H K' =
  onV ((oBin Try.prog .add 3 (d 7) (.int .i64 1)).filter closed) fun v6 =>
  K' ((FF 193 d) |>.set 101 (.bool true) |>.set 102 v1 |>.set 103 v2 |>.set 104 v3 |>.set 105 v4 |>.set 106 v5 |>.set 107 v5 |>.set 64 (d 7) |>.set 65 v6 |>.set 7 v6) H := by kernel_rfl
theorem s23_74 : gOps Try.prog 0 call (opsAt (fAt Try.f23 [1,1,1,0,1,0,0,1,0,0,1,0,0,1,0,0,1,1,0,1,0,0,1,0,0,1,1,1,0,1,0])) ((opsAt (fAt Try.f23 [1,1,1,0,1,0,0,1,0,0,1,0,0,1,0,0,1,1,0,1,0,0,1,0,0,1,1,1,0,1,0])).drop 13) ((FF 193 d) |>.set 101 (.bool false)) H K' =
  K' ((FF 193 d) |>.set 101 (.bool false) |>.set 102 undef |>.set 103 undef |>.set 104 undef |>.set 105 undef |>.set 106 undef |>.set 107 (.bool false)) H := by kernel_rfl
theorem s23_75 : gOps Try.prog 0 call (opsAt (fAt Try.f23 [1,1,1,0,1,0,0,1,0,0,1,0,0,1,0,0,1,1,0,1,0,0,1,1])) ((opsAt (fAt Try.f23 [1,1,1,0,1,0,0,1,0,0,1,0,0,1,0,0,1,1,0,1,0,0,1,1])).drop 0) ((FF 193 d) |>.set 101 (.bool false) |>.set 102 undef |>.set 103 undef |>.set 104 undef |>.set 105 undef |>.set 106 undef |>.set 107 (.bool false)) H K' =
  onV ((oBin Try.prog .add 3 (d 7) (.int .i64 1)).filter closed) fun v1 =>
  K' ((FF 193 d) |>.set 101 (.bool false) |>.set 102 undef |>.set 103 undef |>.set 104 undef |>.set 105 undef |>.set 106 undef |>.set 107 (.bool false) |>.set 64 (d 7) |>.set 65 v1 |>.set 7 v1) H := by kernel_rfl
theorem s23_76 : gOps Try.prog 0 call (opsAt (fAt Try.f23 [1,1,1,0,1,0,0,1,0,0,1,0,0,1,0,0,1,1,0,1,0,0,1,1])) ((opsAt (fAt Try.f23 [1,1,1,0,1,0,0,1,0,0,1,0,0,1,0,0,1,1,0,1,0,0,1,1])).drop 0) (FF 193 d) H K' =
  onV ((oBin Try.prog .add 3 (d 7) (.int .i64 1)).filter closed) fun v1 =>
  K' ((FF 193 d) |>.set 64 (d 7) |>.set 65 v1 |>.set 7 v1) H := by kernel_rfl
def f23_l49_P (ag : GA → GH → M (Value × GH)) (sg : Value → Value → Value → GH → M (Value × GH)) : Prop := ∀ (d : Nat → Value) (H : GH), ag (FF 193 d) H = sg (d 0) (d 13) (d 17) H
theorem f23_l49_at {ag : GA → GH → M (Value × GH)} {sg : Value → Value → Value → GH → M (Value × GH)} (h : f23_l49_P ag sg) : ag (FF 193 d) H = sg (d 0) (d 13) (d 17) H := h d H
def f23_l42_P (ag : GA → GH → M (Value × GH)) (sg : Value → Value → Value → Value → GH → M (Value × GH)) : Prop := ∀ (d : Nat → Value) (H : GH), ag (FF 193 d) H = sg (d 0) (d 13) (d 14) (d 15) H
theorem f23_l42_at {ag : GA → GH → M (Value × GH)} {sg : Value → Value → Value → Value → GH → M (Value × GH)} (h : f23_l42_P ag sg) : ag (FF 193 d) H = sg (d 0) (d 13) (d 14) (d 15) H := h d H
def f23_l39_P (ag : GA → GH → M (Value × GH)) (sg : Value → Value → Value → GH → M (Value × GH)) : Prop := ∀ (d : Nat → Value) (H : GH), ag (FF 193 d) H = sg (d 0) (d 13) (d 14) H
theorem f23_l39_at {ag : GA → GH → M (Value × GH)} {sg : Value → Value → Value → GH → M (Value × GH)} (h : f23_l39_P ag sg) : ag (FF 193 d) H = sg (d 0) (d 13) (d 14) H := h d H
def f23_l33_P (ag : GA → GH → M (Value × GH)) (sg : Value → Value → Value → Value → GH → M (Value × GH)) : Prop := ∀ (d : Nat → Value) (H : GH), ag (FF 193 d) H = sg (d 0) (d 3) (d 11) (d 12) H
theorem f23_l33_at {ag : GA → GH → M (Value × GH)} {sg : Value → Value → Value → Value → GH → M (Value × GH)} (h : f23_l33_P ag sg) : ag (FF 193 d) H = sg (d 0) (d 3) (d 11) (d 12) H := h d H
def f23_l30_P (ag : GA → GH → M (Value × GH)) (sg : Value → Value → Value → GH → M (Value × GH)) : Prop := ∀ (d : Nat → Value) (H : GH), ag (FF 193 d) H = sg (d 0) (d 3) (d 11) H
theorem f23_l30_at {ag : GA → GH → M (Value × GH)} {sg : Value → Value → Value → GH → M (Value × GH)} (h : f23_l30_P ag sg) : ag (FF 193 d) H = sg (d 0) (d 3) (d 11) H := h d H
def f23_l24_P (ag : GA → GH → M (Value × GH)) (sg : Value → Value → Value → Value → Value → Value → GH → M (Value × GH)) : Prop := ∀ (d : Nat → Value) (H : GH), ag (FF 193 d) H = sg (d 0) (d 3) (d 4) (d 5) (d 6) (d 10) H
theorem f23_l24_at {ag : GA → GH → M (Value × GH)} {sg : Value → Value → Value → Value → Value → Value → GH → M (Value × GH)} (h : f23_l24_P ag sg) : ag (FF 193 d) H = sg (d 0) (d 3) (d 4) (d 5) (d 6) (d 10) H := h d H
def f23_l14_P (ag : GA → GH → M (Value × GH)) (sg : Value → Value → Value → Value → Value → Value → GH → M (Value × GH)) : Prop := ∀ (d : Nat → Value) (H : GH), ag (FF 193 d) H = sg (d 0) (d 3) (d 4) (d 5) (d 6) (d 7) H
theorem f23_l14_at {ag : GA → GH → M (Value × GH)} {sg : Value → Value → Value → Value → Value → Value → GH → M (Value × GH)} (h : f23_l14_P ag sg) : ag (FF 193 d) H = sg (d 0) (d 3) (d 4) (d 5) (d 6) (d 7) H := h d H
def f23_l8_P (ag : GA → GH → M (Value × GH)) (sg : Value → Value → Value → Value → GH → M (Value × GH)) : Prop := ∀ (d : Nat → Value) (H : GH), ag (FF 193 d) H = sg (d 0) (d 3) (d 4) (d 5) H
theorem f23_l8_at {ag : GA → GH → M (Value × GH)} {sg : Value → Value → Value → Value → GH → M (Value × GH)} (h : f23_l8_P ag sg) : ag (FF 193 d) H = sg (d 0) (d 3) (d 4) (d 5) H := h d H
def f23_l5_P (ag : GA → GH → M (Value × GH)) (sg : Value → Value → Value → GH → M (Value × GH)) : Prop := ∀ (d : Nat → Value) (H : GH), ag (FF 193 d) H = sg (d 0) (d 3) (d 4) H
theorem f23_l5_at {ag : GA → GH → M (Value × GH)} {sg : Value → Value → Value → GH → M (Value × GH)} (h : f23_l5_P ag sg) : ag (FF 193 d) H = sg (d 0) (d 3) (d 4) H := h d H
noncomputable def f23_l49b (call : Handle) (k : Nat) (sg_l49 : Value → Value → Value → GH → M (Value × GH)) (x0 x13 x17 : Value) (H : GH) : M (Value × GH) :=
  onV ((oBin Try.prog .leq 3 x17 (.int .i64 6)).filter closed) fun v1 =>
  onBool (asB v1)
  (onV (oIndexAddr Try.prog 160 x13 x17) fun v2 =>
  onV (gLoad Try.prog 3 v2 H) fun v3 =>
  onV ((oBin Try.prog .sub 3 x17 (.int .i64 1)).filter closed) fun v4 =>
  onV (oIndexAddr Try.prog 58 x0 v4) fun v5 =>
  onV (gLoad Try.prog 59 v5 H) fun v6 =>
  onV (oLen Try.prog 59 v6) fun v7 =>
  onV ((oBin Try.prog .neq 3 v3 v7).filter closed) fun v8 =>
  onBool (asB v8)
  (some [((.int .i64 6), H)])
  (onV ((oBin Try.prog .add 3 x17 (.int .i64 1)).filter closed) fun v9 =>
  (sg_l49 x0 x13 v9 H)))
  (some [((.int .i64 0), H)])
theorem f23_l49b_eq (call : Handle) (k : Nat) (ag_l49 : GA → GH → M (Value × GH)) (sg_l49 : Value → Value → Value → GH → M (Value × GH)) (h_l49 : f23_l49_P ag_l49 sg_l49) : gCode Try.prog call k (fAt Try.f23 [1,1,1,1,1,1,1,0,1,0,0]) (FF 193 d) H (hLoop ag_l49 (hBlock 16 (hSeq (gCode Try.prog call k (fAt Try.f23 [1,1,1,1,1,1,1,1])) (hFin Try.prog Try.f23)))) = f23_l49b call k sg_l49 (d 0) (d 13) (d 17) H := by
  unfold f23_l49b
  rw [n23_124]
  rw [n23_125]
  rw [n23_126]
  rw [s23_39]
  refine onV_c fun v1 => ?_
  rw [hSeq_n]
  rw [n23_127]
  refine onBool_cc (by kernel_rfl) ?_ ?_
  · rw [n23_128]
    rw [hSeq_n]
    rw [n23_129]
    rw [n23_130]
    rw [n23_131]
    rw [n23_132]
    rw [s23_40]
    refine onV_c fun v2 => ?_
    refine onV_c fun v3 => ?_
    refine onV_c fun v4 => ?_
    refine onV_c fun v5 => ?_
    refine onV_c fun v6 => ?_
    refine onV_c fun v7 => ?_
    refine onV_c fun v8 => ?_
    rw [hSeq_n]
    rw [n23_133]
    refine onBool_cc (by kernel_rfl) ?_ ?_
    · rw [n23_134]
      rw [n23_135]
      rw [s23_41]
      rw [hSeq_n]
      rw [n23_136]
      rw [hBlock_r, hSeq_r, hLoop_r, hBlock_r, hSeq_r]
      kernel_rfl
    · rw [n23_137]
      rw [hBlock_n]
      rw [hSeq_n]
      rw [n23_138]
      rw [s23_42]
      refine onV_c fun v9 => ?_
      rw [hLoop_n]
      rw [show ((FF 193 d) |>.set 179 (d 17) |>.set 180 v1 |>.set 183 (d 17) |>.set 184 v2 |>.set 185 v3 |>.set 186 (d 0) |>.set 187 (d 17) |>.set 188 v4 |>.set 189 v5 |>.set 190 v6 |>.set 191 v7 |>.set 192 v8 |>.set 181 (d 17) |>.set 182 v9 |>.set 17 v9) = (FF 193 (gf ((FF 193 d) |>.set 179 (d 17) |>.set 180 v1 |>.set 183 (d 17) |>.set 184 v2 |>.set 185 v3 |>.set 186 (d 0) |>.set 187 (d 17) |>.set 188 v4 |>.set 189 v5 |>.set 190 v6 |>.set 191 v7 |>.set 192 v8 |>.set 181 (d 17) |>.set 182 v9 |>.set 17 v9))) from by kernel_rfl]
      exact (f23_l49_at (d := gf ((FF 193 d) |>.set 179 (d 17) |>.set 180 v1 |>.set 183 (d 17) |>.set 184 v2 |>.set 185 v3 |>.set 186 (d 0) |>.set 187 (d 17) |>.set 188 v4 |>.set 189 v5 |>.set 190 v6 |>.set 191 v7 |>.set 192 v8 |>.set 181 (d 17) |>.set 182 v9 |>.set 17 v9)) h_l49).trans (by kernel_rfl)
  · rw [n23_139]
    rw [hSeq_e, hLoop_e, hBlock_hit]
    rw [hSeq_n]
    rw [n23_140]
    rw [n23_141]
    rw [s23_43]
    rw [hSeq_n]
    rw [n23_142]
    kernel_rfl
noncomputable def f23_l49 (call : Handle) (k : Nat) : Nat → Value → Value → Value → GH → M (Value × GH)
  | 0, _, _, _, _ => none
  | r + 1, x0, x13, x17, H => f23_l49b call k (f23_l49 call k r) x0 x13 x17 H
theorem f23_l49_eq (call : Handle) (k : Nat) : ∀ (r : Nat), f23_l49_P (gLoop (gCode Try.prog call k (fAt Try.f23 [1,1,1,1,1,1,1,0,1,0,0])) (hBlock 16 (hSeq (gCode Try.prog call k (fAt Try.f23 [1,1,1,1,1,1,1,1])) (hFin Try.prog Try.f23))) r) (f23_l49 call k r) := by
  intro r
  induction r with
  | zero => unfold f23_l49_P; intros; rfl
  | succ r ih => unfold f23_l49_P; intros; exact f23_l49b_eq call k _ _ ih
noncomputable def f23_r48 (call : Handle) (k : Nat) (x0 x13 : Value) (H : GH) : M (Value × GH) :=
  (f23_l49 call k k x0 x13 (.int .i64 1) H)
theorem f23_r48_eq (call : Handle) (k : Nat) : gCode Try.prog call k (fAt Try.f23 [1,1,1,1,1,1,1]) (FF 193 d) H (hFin Try.prog Try.f23) = f23_r48 call k (d 0) (d 13) H := by
  unfold f23_r48
  rw [n23_112]
  rw [n23_113]
  rw [n23_114]
  rw [s23_32]
  rw [hSeq_n]
  rw [n23_115]
  rw [n23_116]
  rw [show ((FF 193 d) |>.set 17 (.int .i64 1)) = (FF 193 (gf ((FF 193 d) |>.set 17 (.int .i64 1)))) from by kernel_rfl]
  exact (f23_l49_at (d := gf ((FF 193 d) |>.set 17 (.int .i64 1))) (f23_l49_eq call k k)).trans (by kernel_rfl)
noncomputable def f23_r43 (call : Handle) (k : Nat) (sg_l39 : Value → Value → Value → GH → M (Value × GH)) (sg_l42 : Value → Value → Value → Value → GH → M (Value × GH)) (x0 x13 x14 x15 : Value) (H : GH) : M (Value × GH) :=
  onV ((oBin Try.prog .sub 3 x15 (.int .i64 1)).filter closed) fun v1 =>
  (sg_l42 x0 x13 x14 v1 H)
theorem f23_r43_eq (call : Handle) (k : Nat) (ag_l39 : GA → GH → M (Value × GH)) (sg_l39 : Value → Value → Value → GH → M (Value × GH)) (h_l39 : f23_l39_P ag_l39 sg_l39) (ag_l42 : GA → GH → M (Value × GH)) (sg_l42 : Value → Value → Value → Value → GH → M (Value × GH)) (h_l42 : f23_l42_P ag_l42 sg_l42) : gCode Try.prog call k (fAt Try.f23 [1,1,1,1,1,1,0,1,0,0,1,0,1,1,0,0,1,1]) (FF 193 d) H (hLoop ag_l42 (hBlock 14 (hBlock 13 (hLoop ag_l39 (hBlock 12 (hSeq (gCode Try.prog call k (fAt Try.f23 [1,1,1,1,1,1,1])) (hFin Try.prog Try.f23))))))) = f23_r43 call k sg_l39 sg_l42 (d 0) (d 13) (d 14) (d 15) H := by
  unfold f23_r43
  rw [n23_160]
  rw [s23_54]
  refine onV_c fun v1 => ?_
  rw [hLoop_n]
  rw [show ((FF 193 d) |>.set 150 (d 15) |>.set 151 v1 |>.set 15 v1) = (FF 193 (gf ((FF 193 d) |>.set 150 (d 15) |>.set 151 v1 |>.set 15 v1))) from by kernel_rfl]
  exact (f23_l42_at (d := gf ((FF 193 d) |>.set 150 (d 15) |>.set 151 v1 |>.set 15 v1)) h_l42).trans (by kernel_rfl)
noncomputable def f23_g45_10 (call : Handle) (k : Nat) (sg_l39 : Value → Value → Value → GH → M (Value × GH)) (sg_l42 : Value → Value → Value → Value → GH → M (Value × GH)) (x167 : Value) (x0 x13 x14 x15 x16 : Value) (H : GH) : M (Value × GH) :=
 onBool (asB x167)
  (onV (gLoad Try.prog 29 x16 H) fun v1 =>
  onV (gLoad Try.prog 160 x13 H) fun v2 =>
  onCall 1 call (.func (.func 75) #[] #[]) [x0, v1, v2] H fun v3 H4 =>
  onV ((oBin Try.prog .eql 3 v3 (.int .i64 0)).filter closed) fun v5 =>
  onBool (asB v5)
  (onV (oIndexAddr Try.prog 160 x13 x15) fun v6 =>
  onV (gLoad Try.prog 3 v6 H4) fun v7 =>
  onV ((oBin Try.prog .add 3 v7 (.int .i64 1)).filter closed) fun v8 =>
  onV (oIndexAddr Try.prog 160 x13 x15) fun v9 =>
  onH (gStore Try.prog 3 v9 v8 H4) fun H10 =>
  (f23_r43 call k (sg_l39) (sg_l42) x0 x13 (.bool true) x15 H10))
  (onV ((oBin Try.prog .sub 3 x15 (.int .i64 1)).filter closed) fun v11 =>
  (sg_l42 x0 x13 x14 v11 H4)))
  (onV ((oBin Try.prog .sub 3 x15 (.int .i64 1)).filter closed) fun v1 =>
  (sg_l42 x0 x13 x14 v1 H))
theorem f23_g45_10_true (call : Handle) (k : Nat) (ag_l39 : GA → GH → M (Value × GH)) (sg_l39 : Value → Value → Value → GH → M (Value × GH)) (h_l39 : f23_l39_P ag_l39 sg_l39) (ag_l42 : GA → GH → M (Value × GH)) (sg_l42 : Value → Value → Value → Value → GH → M (Value × GH)) (h_l42 : f23_l42_P ag_l42 sg_l42) : gOps Try.prog 1 call (opsAt (fAt Try.f23 [1,1,1,1,1,1,0,1,0,0,1,0,1,1,0,0,1,0,0,1,0])) ((opsAt (fAt Try.f23 [1,1,1,1,1,1,0,1,0,0,1,0,1,1,0,0,1,0,0,1,0])).drop 10) ((FF 193 d) |>.set 167 (.bool true)) H ((hSeq (gCode Try.prog call k (fAt Try.f23 [1,1,1,1,1,1,0,1,0,0,1,0,1,1,0,0,1,0,0,1,1])) (hBlock 15 (hSeq (gCode Try.prog call k (fAt Try.f23 [1,1,1,1,1,1,0,1,0,0,1,0,1,1,0,0,1,1])) (hLoop ag_l42 (hBlock 14 (hBlock 13 (hLoop ag_l39 (hBlock 12 (hSeq (gCode Try.prog call k (fAt Try.f23 [1,1,1,1,1,1,1])) (hFin Try.prog Try.f23)))))))))) .normal) =
  onV (gLoad Try.prog 29 (d 16) H) fun v1 =>
  onV (gLoad Try.prog 160 (d 13) H) fun v2 =>
  onCall 1 call (.func (.func 75) #[] #[]) [(d 0), v1, v2] H fun v3 H4 =>
  onV ((oBin Try.prog .eql 3 v3 (.int .i64 0)).filter closed) fun v5 =>
  onBool (asB v5)
  (onV (oIndexAddr Try.prog 160 (d 13) (d 15)) fun v6 =>
  onV (gLoad Try.prog 3 v6 H4) fun v7 =>
  onV ((oBin Try.prog .add 3 v7 (.int .i64 1)).filter closed) fun v8 =>
  onV (oIndexAddr Try.prog 160 (d 13) (d 15)) fun v9 =>
  onH (gStore Try.prog 3 v9 v8 H4) fun H10 =>
  (f23_r43 call k (sg_l39) (sg_l42) (d 0) (d 13) (.bool true) (d 15) H10))
  (onV ((oBin Try.prog .sub 3 (d 15) (.int .i64 1)).filter closed) fun v11 =>
  (sg_l42 (d 0) (d 13) (d 14) v11 H4)) := by
  rw [s23_46]
  refine onV_c fun v1 => ?_
  refine onV_c fun v2 => ?_
  refine onCall_c fun v3 H4 => ?_
  refine onV_c fun v5 => ?_
  rw [hSeq_n]
  rw [n23_155]
  refine onBool_cc (by kernel_rfl) ?_ ?_
  · rw [n23_156]
    rw [n23_157]
    rw [s23_47]
    refine onV_c fun v6 => ?_
    refine onV_c fun v7 => ?_
    refine onV_c fun v8 => ?_
    refine onV_c fun v9 => ?_
    refine onH_c fun H10 => ?_
    rw [hSeq_n]
    rw [n23_158]
    rw [s23_48]
    rw [hBlock_n]
    rw [hSeq_n]
    rw [show ((FF 193 d) |>.set 167 (.bool true) |>.set 168 (d 0) |>.set 169 v1 |>.set 170 v2 |>.set 171 v3 |>.set 172 v5 |>.set 173 v5 |>.set 174 (d 15) |>.set 175 v6 |>.set 176 v7 |>.set 177 v8 |>.set 178 v9 |>.set 14 (.bool true)) = (FF 193 (gf ((FF 193 d) |>.set 167 (.bool true) |>.set 168 (d 0) |>.set 169 v1 |>.set 170 v2 |>.set 171 v3 |>.set 172 v5 |>.set 173 v5 |>.set 174 (d 15) |>.set 175 v6 |>.set 176 v7 |>.set 177 v8 |>.set 178 v9 |>.set 14 (.bool true)))) from by kernel_rfl]
    exact (f23_r43_eq (d := gf ((FF 193 d) |>.set 167 (.bool true) |>.set 168 (d 0) |>.set 169 v1 |>.set 170 v2 |>.set 171 v3 |>.set 172 v5 |>.set 173 v5 |>.set 174 (d 15) |>.set 175 v6 |>.set 176 v7 |>.set 177 v8 |>.set 178 v9 |>.set 14 (.bool true))) call k ag_l39 sg_l39 h_l39 ag_l42 sg_l42 h_l42).trans (by kernel_rfl)
  · rw [n23_159]
    rw [hBlock_n]
    rw [hSeq_n]
    rw [n23_160]
    rw [s23_49]
    refine onV_c fun v11 => ?_
    rw [hLoop_n]
    rw [show ((FF 193 d) |>.set 167 (.bool true) |>.set 168 (d 0) |>.set 169 v1 |>.set 170 v2 |>.set 171 v3 |>.set 172 v5 |>.set 173 v5 |>.set 150 (d 15) |>.set 151 v11 |>.set 15 v11) = (FF 193 (gf ((FF 193 d) |>.set 167 (.bool true) |>.set 168 (d 0) |>.set 169 v1 |>.set 170 v2 |>.set 171 v3 |>.set 172 v5 |>.set 173 v5 |>.set 150 (d 15) |>.set 151 v11 |>.set 15 v11))) from by kernel_rfl]
    exact (f23_l42_at (d := gf ((FF 193 d) |>.set 167 (.bool true) |>.set 168 (d 0) |>.set 169 v1 |>.set 170 v2 |>.set 171 v3 |>.set 172 v5 |>.set 173 v5 |>.set 150 (d 15) |>.set 151 v11 |>.set 15 v11)) h_l42).trans (by kernel_rfl)
theorem f23_g45_10_false (call : Handle) (k : Nat) (ag_l39 : GA → GH → M (Value × GH)) (sg_l39 : Value → Value → Value → GH → M (Value × GH)) (h_l39 : f23_l39_P ag_l39 sg_l39) (ag_l42 : GA → GH → M (Value × GH)) (sg_l42 : Value → Value → Value → Value → GH → M (Value × GH)) (h_l42 : f23_l42_P ag_l42 sg_l42) : gOps Try.prog 1 call (opsAt (fAt Try.f23 [1,1,1,1,1,1,0,1,0,0,1,0,1,1,0,0,1,0,0,1,0])) ((opsAt (fAt Try.f23 [1,1,1,1,1,1,0,1,0,0,1,0,1,1,0,0,1,0,0,1,0])).drop 10) ((FF 193 d) |>.set 167 (.bool false)) H ((hSeq (gCode Try.prog call k (fAt Try.f23 [1,1,1,1,1,1,0,1,0,0,1,0,1,1,0,0,1,0,0,1,1])) (hBlock 15 (hSeq (gCode Try.prog call k (fAt Try.f23 [1,1,1,1,1,1,0,1,0,0,1,0,1,1,0,0,1,1])) (hLoop ag_l42 (hBlock 14 (hBlock 13 (hLoop ag_l39 (hBlock 12 (hSeq (gCode Try.prog call k (fAt Try.f23 [1,1,1,1,1,1,1])) (hFin Try.prog Try.f23)))))))))) .normal) =
  onV ((oBin Try.prog .sub 3 (d 15) (.int .i64 1)).filter closed) fun v1 =>
  (sg_l42 (d 0) (d 13) (d 14) v1 H) := by
  rw [s23_50]
  rw [hSeq_n]
  rw [n23_155]
  refine (onBool_ff (by kernel_rfl)).trans ?_
  rw [n23_159]
  rw [hBlock_n]
  rw [hSeq_n]
  rw [n23_160]
  rw [s23_51]
  refine onV_c fun v1 => ?_
  rw [hLoop_n]
  rw [show ((FF 193 d) |>.set 167 (.bool false) |>.set 168 undef |>.set 169 undef |>.set 170 undef |>.set 171 undef |>.set 172 undef |>.set 173 (.bool false) |>.set 150 (d 15) |>.set 151 v1 |>.set 15 v1) = (FF 193 (gf ((FF 193 d) |>.set 167 (.bool false) |>.set 168 undef |>.set 169 undef |>.set 170 undef |>.set 171 undef |>.set 172 undef |>.set 173 (.bool false) |>.set 150 (d 15) |>.set 151 v1 |>.set 15 v1))) from by kernel_rfl]
  exact (f23_l42_at (d := gf ((FF 193 d) |>.set 167 (.bool false) |>.set 168 undef |>.set 169 undef |>.set 170 undef |>.set 171 undef |>.set 172 undef |>.set 173 (.bool false) |>.set 150 (d 15) |>.set 151 v1 |>.set 15 v1)) h_l42).trans (by kernel_rfl)
theorem f23_g45_10_eq (call : Handle) (k : Nat) (ag_l39 : GA → GH → M (Value × GH)) (sg_l39 : Value → Value → Value → GH → M (Value × GH)) (h_l39 : f23_l39_P ag_l39 sg_l39) (ag_l42 : GA → GH → M (Value × GH)) (sg_l42 : Value → Value → Value → Value → GH → M (Value × GH)) (h_l42 : f23_l42_P ag_l42 sg_l42) : onGrd true xg (gOps Try.prog 1 call (opsAt (fAt Try.f23 [1,1,1,1,1,1,0,1,0,0,1,0,1,1,0,0,1,0,0,1,0])) ((opsAt (fAt Try.f23 [1,1,1,1,1,1,0,1,0,0,1,0,1,1,0,0,1,0,0,1,0])).drop 10) ((FF 193 d) |>.set 167 xg) H ((hSeq (gCode Try.prog call k (fAt Try.f23 [1,1,1,1,1,1,0,1,0,0,1,0,1,1,0,0,1,0,0,1,1])) (hBlock 15 (hSeq (gCode Try.prog call k (fAt Try.f23 [1,1,1,1,1,1,0,1,0,0,1,0,1,1,0,0,1,1])) (hLoop ag_l42 (hBlock 14 (hBlock 13 (hLoop ag_l39 (hBlock 12 (hSeq (gCode Try.prog call k (fAt Try.f23 [1,1,1,1,1,1,1])) (hFin Try.prog Try.f23)))))))))) .normal)) =
  f23_g45_10 call k sg_l39 sg_l42 xg (d 0) (d 13) (d 14) (d 15) (d 16) H := by
  cases xg with
  | bool b => cases b with
    | true => exact onGrd_b.trans (f23_g45_10_true call k ag_l39 sg_l39 h_l39 ag_l42 sg_l42 h_l42)
    | false => exact onGrd_b.trans (f23_g45_10_false call k ag_l39 sg_l39 h_l39 ag_l42 sg_l42 h_l42)
  | _ => kernel_rfl
noncomputable def f23_r45 (call : Handle) (k : Nat) (sg_l39 : Value → Value → Value → GH → M (Value × GH)) (sg_l42 : Value → Value → Value → Value → GH → M (Value × GH)) (x0 x13 x14 x15 x16 : Value) (H : GH) : M (Value × GH) :=
  onV (oFieldAddr Try.prog 29 x16 1) fun v1 =>
  onV (gLoad Try.prog 3 v1 H) fun v2 =>
  onV ((oBin Try.prog .sub 3 x15 (.int .i64 1)).filter closed) fun v3 =>
  onV (oIndexAddr Try.prog 58 x0 v3) fun v4 =>
  onV (gLoad Try.prog 59 v4 H) fun v5 =>
  onV (oLen Try.prog 59 v5) fun v6 =>
  onV ((oBin Try.prog .lss 3 v2 v6).filter closed) fun v7 =>
  (f23_g45_10 call k (sg_l39) (sg_l42) v7 x0 x13 x14 x15 x16 H)
theorem f23_r45_eq (call : Handle) (k : Nat) (ag_l39 : GA → GH → M (Value × GH)) (sg_l39 : Value → Value → Value → GH → M (Value × GH)) (h_l39 : f23_l39_P ag_l39 sg_l39) (ag_l42 : GA → GH → M (Value × GH)) (sg_l42 : Value → Value → Value → Value → GH → M (Value × GH)) (h_l42 : f23_l42_P ag_l42 sg_l42) : gCode Try.prog call k (fAt Try.f23 [1,1,1,1,1,1,0,1,0,0,1,0,1,1,0,0,1,0,0,1,0]) (FF 193 d) H (hSeq (gCode Try.prog call k (fAt Try.f23 [1,1,1,1,1,1,0,1,0,0,1,0,1,1,0,0,1,0,0,1,1])) (hBlock 15 (hSeq (gCode Try.prog call k (fAt Try.f23 [1,1,1,1,1,1,0,1,0,0,1,0,1,1,0,0,1,1])) (hLoop ag_l42 (hBlock 14 (hBlock 13 (hLoop ag_l39 (hBlock 12 (hSeq (gCode Try.prog call k (fAt Try.f23 [1,1,1,1,1,1,1])) (hFin Try.prog Try.f23)))))))))) = f23_r45 call k sg_l39 sg_l42 (d 0) (d 13) (d 14) (d 15) (d 16) H := by
  unfold f23_r45
  rw [n23_123]
  rw [gOps_split 0 10, s23_38]
  refine onV_c fun v1 => ?_
  refine onV_c fun v2 => ?_
  refine onV_c fun v3 => ?_
  refine onV_c fun v4 => ?_
  refine onV_c fun v5 => ?_
  refine onV_c fun v6 => ?_
  refine onV_c fun v7 => ?_
  rw [show ((FF 193 d) |>.set 158 v1 |>.set 159 v2 |>.set 160 (d 0) |>.set 161 (d 15) |>.set 162 v3 |>.set 163 v4 |>.set 164 v5 |>.set 165 v6 |>.set 166 v7 |>.set 167 v7) = ((FF 193 (gf ((FF 193 d) |>.set 158 v1 |>.set 159 v2 |>.set 160 (d 0) |>.set 161 (d 15) |>.set 162 v3 |>.set 163 v4 |>.set 164 v5 |>.set 165 v6 |>.set 166 v7 |>.set 167 v7))) |>.set 167 v7) from by kernel_rfl]
  exact (f23_g45_10_eq (d := gf ((FF 193 d) |>.set 158 v1 |>.set 159 v2 |>.set 160 (d 0) |>.set 161 (d 15) |>.set 162 v3 |>.set 163 v4 |>.set 164 v5 |>.set 165 v6 |>.set 166 v7 |>.set 167 v7)) call k ag_l39 sg_l39 h_l39 ag_l42 sg_l42 h_l42).trans (by kernel_rfl)
noncomputable def f23_l42b (call : Handle) (k : Nat) (sg_l39 : Value → Value → Value → GH → M (Value × GH)) (sg_l42 : Value → Value → Value → Value → GH → M (Value × GH)) (x0 x13 x14 x15 : Value) (H : GH) : M (Value × GH) :=
  onV ((oBin Try.prog .geq 3 x15 (.int .i64 1)).filter closed) fun v1 =>
  onBool (asB v1)
  (onV ((oConvert Try.prog 3 5 x15).filter closed) fun v2 =>
  onV (oIndexAddr Try.prog 160 x13 x15) fun v3 =>
  onV (gLoad Try.prog 3 v3 H) fun v4 =>
  onV (oBuild Try.prog 29 [(0, v2), (1, v4)]) fun v5 =>
  onH (gStore Try.prog 29 (.pointer (some ⟨H.n, 0, none⟩)) v5 (GH.push H (.row [(.int .u8 0), (.int .i64 0)] 29 false))) fun H6 =>
  (f23_r45 call k (sg_l39) (sg_l42) x0 x13 x14 x15 (.pointer (some ⟨H.n, 0, none⟩)) H6))
  ((sg_l39 x0 x13 x14 H))
theorem f23_l42b_eq (call : Handle) (k : Nat) (ag_l39 : GA → GH → M (Value × GH)) (sg_l39 : Value → Value → Value → GH → M (Value × GH)) (h_l39 : f23_l39_P ag_l39 sg_l39) (ag_l42 : GA → GH → M (Value × GH)) (sg_l42 : Value → Value → Value → Value → GH → M (Value × GH)) (h_l42 : f23_l42_P ag_l42 sg_l42) : gCode Try.prog call k (fAt Try.f23 [1,1,1,1,1,1,0,1,0,0,1,0,1,1,0,0]) (FF 193 d) H (hLoop ag_l42 (hBlock 14 (hBlock 13 (hLoop ag_l39 (hBlock 12 (hSeq (gCode Try.prog call k (fAt Try.f23 [1,1,1,1,1,1,1])) (hFin Try.prog Try.f23))))))) = f23_l42b call k sg_l39 sg_l42 (d 0) (d 13) (d 14) (d 15) H := by
  unfold f23_l42b
  rw [n23_101]
  rw [n23_102]
  rw [n23_103]
  rw [s23_30]
  refine onV_c fun v1 => ?_
  rw [hSeq_n]
  rw [n23_104]
  refine onBool_cc (by kernel_rfl) ?_ ?_
  · rw [n23_105]
    rw [hSeq_n]
    rw [n23_106]
    rw [n23_107]
    rw [n23_108]
    rw [n23_109]
    rw [s23_31]
    refine onV_c fun v2 => ?_
    refine onV_c fun v3 => ?_
    refine onV_c fun v4 => ?_
    refine onV_c fun v5 => ?_
    refine onH_c fun H6 => ?_
    rw [hSeq_n]
    rw [n23_110]
    rw [show ((FF 193 d) |>.set 148 (d 15) |>.set 149 v1 |>.set 152 (d 15) |>.set 153 v2 |>.set 154 (d 15) |>.set 155 v3 |>.set 156 v4 |>.set 157 v5 |>.set 16 (.pointer (some ⟨H.n, 0, none⟩))) = (FF 193 (gf ((FF 193 d) |>.set 148 (d 15) |>.set 149 v1 |>.set 152 (d 15) |>.set 153 v2 |>.set 154 (d 15) |>.set 155 v3 |>.set 156 v4 |>.set 157 v5 |>.set 16 (.pointer (some ⟨H.n, 0, none⟩))))) from by kernel_rfl]
    exact (f23_r45_eq (d := gf ((FF 193 d) |>.set 148 (d 15) |>.set 149 v1 |>.set 152 (d 15) |>.set 153 v2 |>.set 154 (d 15) |>.set 155 v3 |>.set 156 v4 |>.set 157 v5 |>.set 16 (.pointer (some ⟨H.n, 0, none⟩)))) call k ag_l39 sg_l39 h_l39 ag_l42 sg_l42 h_l42).trans (by kernel_rfl)
  · rw [n23_111]
    rw [hSeq_e, hLoop_e, hBlock_hit]
    rw [hBlock_n]
    rw [hLoop_n]
    rw [show ((FF 193 d) |>.set 148 (d 15) |>.set 149 v1) = (FF 193 (gf ((FF 193 d) |>.set 148 (d 15) |>.set 149 v1))) from by kernel_rfl]
    exact (f23_l39_at (d := gf ((FF 193 d) |>.set 148 (d 15) |>.set 149 v1)) h_l39).trans (by kernel_rfl)
noncomputable def f23_l42 (call : Handle) (k : Nat) (sg_l39 : Value → Value → Value → GH → M (Value × GH)) : Nat → Value → Value → Value → Value → GH → M (Value × GH)
  | 0, _, _, _, _, _ => none
  | r + 1, x0, x13, x14, x15, H => f23_l42b call k sg_l39 (f23_l42 call k sg_l39 r) x0 x13 x14 x15 H
theorem f23_l42_eq (call : Handle) (k : Nat) (ag_l39 : GA → GH → M (Value × GH)) (sg_l39 : Value → Value → Value → GH → M (Value × GH)) (h_l39 : f23_l39_P ag_l39 sg_l39) : ∀ (r : Nat), f23_l42_P (gLoop (gCode Try.prog call k (fAt Try.f23 [1,1,1,1,1,1,0,1,0,0,1,0,1,1,0,0])) (hBlock 14 (hBlock 13 (hLoop ag_l39 (hBlock 12 (hSeq (gCode Try.prog call k (fAt Try.f23 [1,1,1,1,1,1,1])) (hFin Try.prog Try.f23)))))) r) (f23_l42 call k sg_l39 r) := by
  intro r
  induction r with
  | zero => unfold f23_l42_P; intros; rfl
  | succ r ih => unfold f23_l42_P; intros; exact f23_l42b_eq call k ag_l39 sg_l39 h_l39 _ _ ih
noncomputable def f23_l39b (call : Handle) (k : Nat) (sg_l39 : Value → Value → Value → GH → M (Value × GH)) (x0 x13 x14 : Value) (H : GH) : M (Value × GH) :=
  onBool (asB x14)
  ((f23_l42 call k (sg_l39) k x0 x13 (.bool false) (.int .i64 6) H))
  ((f23_r48 call k x0 x13 H))
theorem f23_l39b_eq (call : Handle) (k : Nat) (ag_l39 : GA → GH → M (Value × GH)) (sg_l39 : Value → Value → Value → GH → M (Value × GH)) (h_l39 : f23_l39_P ag_l39 sg_l39) : gCode Try.prog call k (fAt Try.f23 [1,1,1,1,1,1,0,1,0,0]) (FF 193 d) H (hLoop ag_l39 (hBlock 12 (hSeq (gCode Try.prog call k (fAt Try.f23 [1,1,1,1,1,1,1])) (hFin Try.prog Try.f23)))) = f23_l39b call k sg_l39 (d 0) (d 13) (d 14) H := by
  unfold f23_l39b
  rw [n23_88]
  rw [n23_89]
  rw [n23_90]
  rw [s23_24]
  rw [hSeq_n]
  rw [n23_91]
  refine onBool_cc (by kernel_rfl) ?_ ?_
  · rw [n23_92]
    rw [hSeq_n]
    rw [n23_93]
    rw [n23_94]
    rw [n23_95]
    rw [s23_25]
    rw [hSeq_n]
    rw [n23_96]
    rw [n23_97]
    rw [s23_26]
    rw [hSeq_n]
    rw [n23_98]
    rw [n23_99]
    rw [show ((FF 193 d) |>.set 147 (d 14) |>.set 14 (.bool false) |>.set 15 (.int .i64 6)) = (FF 193 (gf ((FF 193 d) |>.set 147 (d 14) |>.set 14 (.bool false) |>.set 15 (.int .i64 6)))) from by kernel_rfl]
    exact (f23_l42_at (d := gf ((FF 193 d) |>.set 147 (d 14) |>.set 14 (.bool false) |>.set 15 (.int .i64 6))) (f23_l42_eq call k ag_l39 sg_l39 h_l39 k)).trans (by kernel_rfl)
  · rw [n23_100]
    rw [hSeq_e, hLoop_e, hBlock_hit]
    rw [hSeq_n]
    rw [show ((FF 193 d) |>.set 147 (d 14)) = (FF 193 (gf ((FF 193 d) |>.set 147 (d 14)))) from by kernel_rfl]
    exact (f23_r48_eq (d := gf ((FF 193 d) |>.set 147 (d 14))) call k).trans (by kernel_rfl)
noncomputable def f23_l39 (call : Handle) (k : Nat) : Nat → Value → Value → Value → GH → M (Value × GH)
  | 0, _, _, _, _ => none
  | r + 1, x0, x13, x14, H => f23_l39b call k (f23_l39 call k r) x0 x13 x14 H
theorem f23_l39_eq (call : Handle) (k : Nat) : ∀ (r : Nat), f23_l39_P (gLoop (gCode Try.prog call k (fAt Try.f23 [1,1,1,1,1,1,0,1,0,0])) (hBlock 12 (hSeq (gCode Try.prog call k (fAt Try.f23 [1,1,1,1,1,1,1])) (hFin Try.prog Try.f23))) r) (f23_l39 call k r) := by
  intro r
  induction r with
  | zero => unfold f23_l39_P; intros; rfl
  | succ r ih => unfold f23_l39_P; intros; exact f23_l39b_eq call k _ _ ih
noncomputable def f23_r37 (call : Handle) (k : Nat) (x0 : Value) (H : GH) : M (Value × GH) :=
  (f23_l39 call k k x0 (.pointer (some ⟨H.n, 0, none⟩)) (.bool true) (GH.push H (.row [(.int .i64 0), (.int .i64 0), (.int .i64 0), (.int .i64 0), (.int .i64 0), (.int .i64 0), (.int .i64 0)] 160 false)))
theorem f23_r37_eq (call : Handle) (k : Nat) : gCode Try.prog call k (fAt Try.f23 [1,1,1,1,1]) (FF 193 d) H (hFin Try.prog Try.f23) = f23_r37 call k (d 0) H := by
  unfold f23_r37
  rw [n23_77]
  rw [n23_78]
  rw [s23_19]
  rw [hSeq_n]
  rw [n23_79]
  rw [n23_80]
  rw [n23_81]
  rw [s23_20]
  rw [hSeq_n]
  rw [n23_82]
  rw [n23_83]
  rw [show ((FF 193 d) |>.set 13 (.pointer (some ⟨H.n, 0, none⟩)) |>.set 14 (.bool true)) = (FF 193 (gf ((FF 193 d) |>.set 13 (.pointer (some ⟨H.n, 0, none⟩)) |>.set 14 (.bool true)))) from by kernel_rfl]
  exact (f23_l39_at (d := gf ((FF 193 d) |>.set 13 (.pointer (some ⟨H.n, 0, none⟩)) |>.set 14 (.bool true))) (f23_l39_eq call k k)).trans (by kernel_rfl)
noncomputable def f23_l33b (call : Handle) (k : Nat) (sg_l30 : Value → Value → Value → GH → M (Value × GH)) (sg_l33 : Value → Value → Value → Value → GH → M (Value × GH)) (x0 x3 x11 x12 : Value) (H : GH) : M (Value × GH) :=
  onV ((oBin Try.prog .lss 3 x12 x11).filter closed) fun v1 =>
  onBool (asB v1)
  (onV (oIndexAddr Try.prog 26 x3 x12) fun v2 =>
  onV (gLoad Try.prog 29 v2 H) fun v3 =>
  onV (oIndexAddr Try.prog 26 x3 x11) fun v4 =>
  onV (gLoad Try.prog 29 v4 H) fun v5 =>
  onV ((oBin Try.prog .eql 29 v3 v5).filter closed) fun v6 =>
  onBool (asB v6)
  (some [((.int .i64 8), H)])
  (onV ((oBin Try.prog .add 3 x12 (.int .i64 1)).filter closed) fun v7 =>
  (sg_l33 x0 x3 x11 v7 H)))
  (onV ((oBin Try.prog .add 3 x11 (.int .i64 1)).filter closed) fun v8 =>
  (sg_l30 x0 x3 v8 H))
theorem f23_l33b_eq (call : Handle) (k : Nat) (ag_l30 : GA → GH → M (Value × GH)) (sg_l30 : Value → Value → Value → GH → M (Value × GH)) (h_l30 : f23_l30_P ag_l30 sg_l30) (ag_l33 : GA → GH → M (Value × GH)) (sg_l33 : Value → Value → Value → Value → GH → M (Value × GH)) (h_l33 : f23_l33_P ag_l33 sg_l33) : gCode Try.prog call k (fAt Try.f23 [1,1,1,1,0,1,0,0,1,0,0,1,0,0]) (FF 193 d) H (hLoop ag_l33 (hBlock 10 (hBlock 9 (hSeq (gCode Try.prog call k (fAt Try.f23 [1,1,1,1,0,1,0,0,1,1])) (hLoop ag_l30 (hBlock 8 (hSeq (gCode Try.prog call k (fAt Try.f23 [1,1,1,1,1])) (hFin Try.prog Try.f23)))))))) = f23_l33b call k sg_l30 sg_l33 (d 0) (d 3) (d 11) (d 12) H := by
  unfold f23_l33b
  rw [n23_60]
  rw [n23_61]
  rw [n23_62]
  rw [s23_14]
  refine onV_c fun v1 => ?_
  rw [hSeq_n]
  rw [n23_63]
  refine onBool_cc (by kernel_rfl) ?_ ?_
  · rw [n23_64]
    rw [hSeq_n]
    rw [n23_65]
    rw [n23_66]
    rw [n23_67]
    rw [n23_68]
    rw [s23_15]
    refine onV_c fun v2 => ?_
    refine onV_c fun v3 => ?_
    refine onV_c fun v4 => ?_
    refine onV_c fun v5 => ?_
    refine onV_c fun v6 => ?_
    rw [hSeq_n]
    rw [n23_69]
    refine onBool_cc (by kernel_rfl) ?_ ?_
    · rw [n23_70]
      rw [n23_71]
      rw [s23_16]
      rw [hSeq_n]
      rw [n23_72]
      rw [hBlock_r, hSeq_r, hLoop_r, hBlock_r, hBlock_r, hSeq_r, hLoop_r, hBlock_r, hSeq_r]
      kernel_rfl
    · rw [n23_73]
      rw [hBlock_n]
      rw [hSeq_n]
      rw [n23_74]
      rw [s23_17]
      refine onV_c fun v7 => ?_
      rw [hLoop_n]
      rw [show ((FF 193 d) |>.set 133 (d 12) |>.set 134 (d 11) |>.set 135 v1 |>.set 138 (d 3) |>.set 139 (d 12) |>.set 140 v2 |>.set 141 v3 |>.set 142 (d 3) |>.set 143 (d 11) |>.set 144 v4 |>.set 145 v5 |>.set 146 v6 |>.set 136 (d 12) |>.set 137 v7 |>.set 12 v7) = (FF 193 (gf ((FF 193 d) |>.set 133 (d 12) |>.set 134 (d 11) |>.set 135 v1 |>.set 138 (d 3) |>.set 139 (d 12) |>.set 140 v2 |>.set 141 v3 |>.set 142 (d 3) |>.set 143 (d 11) |>.set 144 v4 |>.set 145 v5 |>.set 146 v6 |>.set 136 (d 12) |>.set 137 v7 |>.set 12 v7))) from by kernel_rfl]
      exact (f23_l33_at (d := gf ((FF 193 d) |>.set 133 (d 12) |>.set 134 (d 11) |>.set 135 v1 |>.set 138 (d 3) |>.set 139 (d 12) |>.set 140 v2 |>.set 141 v3 |>.set 142 (d 3) |>.set 143 (d 11) |>.set 144 v4 |>.set 145 v5 |>.set 146 v6 |>.set 136 (d 12) |>.set 137 v7 |>.set 12 v7)) h_l33).trans (by kernel_rfl)
  · rw [n23_75]
    rw [hSeq_e, hLoop_e, hBlock_hit]
    rw [hBlock_n]
    rw [hSeq_n]
    rw [n23_76]
    rw [s23_18]
    refine onV_c fun v8 => ?_
    rw [hLoop_n]
    rw [show ((FF 193 d) |>.set 133 (d 12) |>.set 134 (d 11) |>.set 135 v1 |>.set 131 (d 11) |>.set 132 v8 |>.set 11 v8) = (FF 193 (gf ((FF 193 d) |>.set 133 (d 12) |>.set 134 (d 11) |>.set 135 v1 |>.set 131 (d 11) |>.set 132 v8 |>.set 11 v8))) from by kernel_rfl]
    exact (f23_l30_at (d := gf ((FF 193 d) |>.set 133 (d 12) |>.set 134 (d 11) |>.set 135 v1 |>.set 131 (d 11) |>.set 132 v8 |>.set 11 v8)) h_l30).trans (by kernel_rfl)
noncomputable def f23_l33 (call : Handle) (k : Nat) (sg_l30 : Value → Value → Value → GH → M (Value × GH)) : Nat → Value → Value → Value → Value → GH → M (Value × GH)
  | 0, _, _, _, _, _ => none
  | r + 1, x0, x3, x11, x12, H => f23_l33b call k sg_l30 (f23_l33 call k sg_l30 r) x0 x3 x11 x12 H
theorem f23_l33_eq (call : Handle) (k : Nat) (ag_l30 : GA → GH → M (Value × GH)) (sg_l30 : Value → Value → Value → GH → M (Value × GH)) (h_l30 : f23_l30_P ag_l30 sg_l30) : ∀ (r : Nat), f23_l33_P (gLoop (gCode Try.prog call k (fAt Try.f23 [1,1,1,1,0,1,0,0,1,0,0,1,0,0])) (hBlock 10 (hBlock 9 (hSeq (gCode Try.prog call k (fAt Try.f23 [1,1,1,1,0,1,0,0,1,1])) (hLoop ag_l30 (hBlock 8 (hSeq (gCode Try.prog call k (fAt Try.f23 [1,1,1,1,1])) (hFin Try.prog Try.f23))))))) r) (f23_l33 call k sg_l30 r) := by
  intro r
  induction r with
  | zero => unfold f23_l33_P; intros; rfl
  | succ r ih => unfold f23_l33_P; intros; exact f23_l33b_eq call k ag_l30 sg_l30 h_l30 _ _ ih
noncomputable def f23_l30b (call : Handle) (k : Nat) (sg_l30 : Value → Value → Value → GH → M (Value × GH)) (x0 x3 x11 : Value) (H : GH) : M (Value × GH) :=
  onV (oLen Try.prog 26 x3) fun v1 =>
  onV ((oBin Try.prog .lss 3 x11 v1).filter closed) fun v2 =>
  onBool (asB v2)
  ((f23_l33 call k (sg_l30) k x0 x3 x11 (.int .i64 0) H))
  ((f23_r37 call k x0 H))
theorem f23_l30b_eq (call : Handle) (k : Nat) (ag_l30 : GA → GH → M (Value × GH)) (sg_l30 : Value → Value → Value → GH → M (Value × GH)) (h_l30 : f23_l30_P ag_l30 sg_l30) : gCode Try.prog call k (fAt Try.f23 [1,1,1,1,0,1,0,0]) (FF 193 d) H (hLoop ag_l30 (hBlock 8 (hSeq (gCode Try.prog call k (fAt Try.f23 [1,1,1,1,1])) (hFin Try.prog Try.f23)))) = f23_l30b call k sg_l30 (d 0) (d 3) (d 11) H := by
  unfold f23_l30b
  rw [n23_47]
  rw [n23_48]
  rw [n23_49]
  rw [s23_11]
  refine onV_c fun v1 => ?_
  refine onV_c fun v2 => ?_
  rw [hSeq_n]
  rw [n23_50]
  refine onBool_cc (by kernel_rfl) ?_ ?_
  · rw [n23_51]
    rw [hSeq_n]
    rw [n23_52]
    rw [n23_53]
    rw [n23_54]
    rw [n23_55]
    rw [s23_12]
    rw [hSeq_n]
    rw [n23_56]
    rw [n23_57]
    rw [show ((FF 193 d) |>.set 127 (d 11) |>.set 128 (d 3) |>.set 129 v1 |>.set 130 v2 |>.set 12 (.int .i64 0)) = (FF 193 (gf ((FF 193 d) |>.set 127 (d 11) |>.set 128 (d 3) |>.set 129 v1 |>.set 130 v2 |>.set 12 (.int .i64 0)))) from by kernel_rfl]
    exact (f23_l33_at (d := gf ((FF 193 d) |>.set 127 (d 11) |>.set 128 (d 3) |>.set 129 v1 |>.set 130 v2 |>.set 12 (.int .i64 0))) (f23_l33_eq call k ag_l30 sg_l30 h_l30 k)).trans (by kernel_rfl)
  · rw [n23_58]
    rw [hSeq_e, hLoop_e, hBlock_hit]
    rw [hSeq_n]
    rw [show ((FF 193 d) |>.set 127 (d 11) |>.set 128 (d 3) |>.set 129 v1 |>.set 130 v2) = (FF 193 (gf ((FF 193 d) |>.set 127 (d 11) |>.set 128 (d 3) |>.set 129 v1 |>.set 130 v2))) from by kernel_rfl]
    exact (f23_r37_eq (d := gf ((FF 193 d) |>.set 127 (d 11) |>.set 128 (d 3) |>.set 129 v1 |>.set 130 v2)) call k).trans (by kernel_rfl)
noncomputable def f23_l30 (call : Handle) (k : Nat) : Nat → Value → Value → Value → GH → M (Value × GH)
  | 0, _, _, _, _ => none
  | r + 1, x0, x3, x11, H => f23_l30b call k (f23_l30 call k r) x0 x3 x11 H
theorem f23_l30_eq (call : Handle) (k : Nat) : ∀ (r : Nat), f23_l30_P (gLoop (gCode Try.prog call k (fAt Try.f23 [1,1,1,1,0,1,0,0])) (hBlock 8 (hSeq (gCode Try.prog call k (fAt Try.f23 [1,1,1,1,1])) (hFin Try.prog Try.f23))) r) (f23_l30 call k r) := by
  intro r
  induction r with
  | zero => unfold f23_l30_P; intros; rfl
  | succ r ih => unfold f23_l30_P; intros; exact f23_l30b_eq call k _ _ ih
noncomputable def f23_r29 (call : Handle) (k : Nat) (x0 x3 : Value) (H : GH) : M (Value × GH) :=
  (f23_l30 call k k x0 x3 (.int .i64 0) H)
theorem f23_r29_eq (call : Handle) (k : Nat) : gCode Try.prog call k (fAt Try.f23 [1,1,1,1]) (FF 193 d) H (hFin Try.prog Try.f23) = f23_r29 call k (d 0) (d 3) H := by
  unfold f23_r29
  rw [n23_39]
  rw [n23_40]
  rw [n23_41]
  rw [s23_9]
  rw [hSeq_n]
  rw [n23_42]
  rw [n23_43]
  rw [show ((FF 193 d) |>.set 11 (.int .i64 0)) = (FF 193 (gf ((FF 193 d) |>.set 11 (.int .i64 0)))) from by kernel_rfl]
  exact (f23_l30_at (d := gf ((FF 193 d) |>.set 11 (.int .i64 0))) (f23_l30_eq call k k)).trans (by kernel_rfl)
noncomputable def f23_r15 (call : Handle) (k : Nat) (sg_l5 : Value → Value → Value → GH → M (Value × GH)) (sg_l8 : Value → Value → Value → Value → GH → M (Value × GH)) (sg_l14 : Value → Value → Value → Value → Value → Value → GH → M (Value × GH)) (x0 x3 x4 x5 x6 x7 : Value) (H : GH) : M (Value × GH) :=
  onV ((oBin Try.prog .add 3 x7 (.int .i64 1)).filter closed) fun v1 =>
  (sg_l14 x0 x3 x4 x5 x6 v1 H)
theorem f23_r15_eq (call : Handle) (k : Nat) (ag_l5 : GA → GH → M (Value × GH)) (sg_l5 : Value → Value → Value → GH → M (Value × GH)) (h_l5 : f23_l5_P ag_l5 sg_l5) (ag_l8 : GA → GH → M (Value × GH)) (sg_l8 : Value → Value → Value → Value → GH → M (Value × GH)) (h_l8 : f23_l8_P ag_l8 sg_l8) (ag_l14 : GA → GH → M (Value × GH)) (sg_l14 : Value → Value → Value → Value → Value → Value → GH → M (Value × GH)) (h_l14 : f23_l14_P ag_l14 sg_l14) : gCode Try.prog call k (fAt Try.f23 [1,1,1,0,1,0,0,1,0,0,1,0,0,1,0,0,1,1,0,1,0,0,1,1]) (FF 193 d) H (hLoop ag_l14 (hBlock 4 (hSeq (gCode Try.prog call k (fAt Try.f23 [1,1,1,0,1,0,0,1,0,0,1,0,0,1,0,0,1,1,1])) (hBlock 3 (hSeq (gCode Try.prog call k (fAt Try.f23 [1,1,1,0,1,0,0,1,0,0,1,0,0,1,1])) (hLoop ag_l8 (hBlock 2 (hBlock 1 (hSeq (gCode Try.prog call k (fAt Try.f23 [1,1,1,0,1,0,0,1,1])) (hLoop ag_l5 (hBlock 0 (hSeq (gCode Try.prog call k (fAt Try.f23 [1,1,1,1])) (hFin Try.prog Try.f23))))))))))))) = f23_r15 call k sg_l5 sg_l8 sg_l14 (d 0) (d 3) (d 4) (d 5) (d 6) (d 7) H := by
  unfold f23_r15
  rw [n23_177]
  rw [s23_76]
  refine onV_c fun v1 => ?_
  rw [hLoop_n]
  rw [show ((FF 193 d) |>.set 64 (d 7) |>.set 65 v1 |>.set 7 v1) = (FF 193 (gf ((FF 193 d) |>.set 64 (d 7) |>.set 65 v1 |>.set 7 v1))) from by kernel_rfl]
  exact (f23_l14_at (d := gf ((FF 193 d) |>.set 64 (d 7) |>.set 65 v1 |>.set 7 v1)) h_l14).trans (by kernel_rfl)
noncomputable def f23_g21_13 (call : Handle) (k : Nat) (sg_l5 : Value → Value → Value → GH → M (Value × GH)) (sg_l8 : Value → Value → Value → Value → GH → M (Value × GH)) (sg_l14 : Value → Value → Value → Value → Value → Value → GH → M (Value × GH)) (x101 : Value) (x0 x3 x4 x5 x6 x7 x8 x9 : Value) (H : GH) : M (Value × GH) :=
 onBool (asB x101)
  (onV (oFieldAddr Try.prog 157 x9 2) fun v1 =>
  onV (gLoad Try.prog 155 v1 H) fun v2 =>
  onV (oFieldAddr Try.prog 157 x8 2) fun v3 =>
  onV (gLoad Try.prog 155 v3 H) fun v4 =>
  onV ((oBin Try.prog .neq 155 v2 v4).filter closed) fun v5 =>
  onBool (asB v5)
  (some [((.int .i64 1), H)])
  (onV ((oBin Try.prog .add 3 x7 (.int .i64 1)).filter closed) fun v6 =>
  (sg_l14 x0 x3 x4 x5 x6 v6 H)))
  (onV ((oBin Try.prog .add 3 x7 (.int .i64 1)).filter closed) fun v1 =>
  (sg_l14 x0 x3 x4 x5 x6 v1 H))
theorem f23_g21_13_true (call : Handle) (k : Nat) (ag_l5 : GA → GH → M (Value × GH)) (sg_l5 : Value → Value → Value → GH → M (Value × GH)) (h_l5 : f23_l5_P ag_l5 sg_l5) (ag_l8 : GA → GH → M (Value × GH)) (sg_l8 : Value → Value → Value → Value → GH → M (Value × GH)) (h_l8 : f23_l8_P ag_l8 sg_l8) (ag_l14 : GA → GH → M (Value × GH)) (sg_l14 : Value → Value → Value → Value → Value → Value → GH → M (Value × GH)) (h_l14 : f23_l14_P ag_l14 sg_l14) : gOps Try.prog 0 call (opsAt (fAt Try.f23 [1,1,1,0,1,0,0,1,0,0,1,0,0,1,0,0,1,1,0,1,0,0,1,0,0,1,1,1,0,1,0])) ((opsAt (fAt Try.f23 [1,1,1,0,1,0,0,1,0,0,1,0,0,1,0,0,1,1,0,1,0,0,1,0,0,1,1,1,0,1,0])).drop 13) ((FF 193 d) |>.set 101 (.bool true)) H ((hSeq (gCode Try.prog call k (fAt Try.f23 [1,1,1,0,1,0,0,1,0,0,1,0,0,1,0,0,1,1,0,1,0,0,1,0,0,1,1,1,0,1,1])) (hBlock 5 (hSeq (gCode Try.prog call k (fAt Try.f23 [1,1,1,0,1,0,0,1,0,0,1,0,0,1,0,0,1,1,0,1,0,0,1,1])) (hLoop ag_l14 (hBlock 4 (hSeq (gCode Try.prog call k (fAt Try.f23 [1,1,1,0,1,0,0,1,0,0,1,0,0,1,0,0,1,1,1])) (hBlock 3 (hSeq (gCode Try.prog call k (fAt Try.f23 [1,1,1,0,1,0,0,1,0,0,1,0,0,1,1])) (hLoop ag_l8 (hBlock 2 (hBlock 1 (hSeq (gCode Try.prog call k (fAt Try.f23 [1,1,1,0,1,0,0,1,1])) (hLoop ag_l5 (hBlock 0 (hSeq (gCode Try.prog call k (fAt Try.f23 [1,1,1,1])) (hFin Try.prog Try.f23)))))))))))))))) .normal) =
  onV (oFieldAddr Try.prog 157 (d 9) 2) fun v1 =>
  onV (gLoad Try.prog 155 v1 H) fun v2 =>
  onV (oFieldAddr Try.prog 157 (d 8) 2) fun v3 =>
  onV (gLoad Try.prog 155 v3 H) fun v4 =>
  onV ((oBin Try.prog .neq 155 v2 v4).filter closed) fun v5 =>
  onBool (asB v5)
  (some [((.int .i64 1), H)])
  (onV ((oBin Try.prog .add 3 (d 7) (.int .i64 1)).filter closed) fun v6 =>
  (sg_l14 (d 0) (d 3) (d 4) (d 5) (d 6) v6 H)) := by
  rw [s23_71]
  refine onV_c fun v1 => ?_
  refine onV_c fun v2 => ?_
  refine onV_c fun v3 => ?_
  refine onV_c fun v4 => ?_
  refine onV_c fun v5 => ?_
  rw [hSeq_n]
  rw [n23_199]
  refine onBool_cc (by kernel_rfl) ?_ ?_
  · rw [n23_201]
    rw [n23_202]
    rw [s23_72]
    rw [hSeq_n]
    rw [n23_203]
    rw [hBlock_r, hSeq_r, hLoop_r, hBlock_r, hSeq_r, hBlock_r, hSeq_r, hLoop_r, hBlock_r, hBlock_r, hSeq_r, hLoop_r, hBlock_r, hSeq_r]
    kernel_rfl
  · rw [n23_200]
    rw [hBlock_n]
    rw [hSeq_n]
    rw [n23_177]
    rw [s23_73]
    refine onV_c fun v6 => ?_
    rw [hLoop_n]
    rw [show ((FF 193 d) |>.set 101 (.bool true) |>.set 102 v1 |>.set 103 v2 |>.set 104 v3 |>.set 105 v4 |>.set 106 v5 |>.set 107 v5 |>.set 64 (d 7) |>.set 65 v6 |>.set 7 v6) = (FF 193 (gf ((FF 193 d) |>.set 101 (.bool true) |>.set 102 v1 |>.set 103 v2 |>.set 104 v3 |>.set 105 v4 |>.set 106 v5 |>.set 107 v5 |>.set 64 (d 7) |>.set 65 v6 |>.set 7 v6))) from by kernel_rfl]
    exact (f23_l14_at (d := gf ((FF 193 d) |>.set 101 (.bool true) |>.set 102 v1 |>.set 103 v2 |>.set 104 v3 |>.set 105 v4 |>.set 106 v5 |>.set 107 v5 |>.set 64 (d 7) |>.set 65 v6 |>.set 7 v6)) h_l14).trans (by kernel_rfl)
theorem f23_g21_13_false (call : Handle) (k : Nat) (ag_l5 : GA → GH → M (Value × GH)) (sg_l5 : Value → Value → Value → GH → M (Value × GH)) (h_l5 : f23_l5_P ag_l5 sg_l5) (ag_l8 : GA → GH → M (Value × GH)) (sg_l8 : Value → Value → Value → Value → GH → M (Value × GH)) (h_l8 : f23_l8_P ag_l8 sg_l8) (ag_l14 : GA → GH → M (Value × GH)) (sg_l14 : Value → Value → Value → Value → Value → Value → GH → M (Value × GH)) (h_l14 : f23_l14_P ag_l14 sg_l14) : gOps Try.prog 0 call (opsAt (fAt Try.f23 [1,1,1,0,1,0,0,1,0,0,1,0,0,1,0,0,1,1,0,1,0,0,1,0,0,1,1,1,0,1,0])) ((opsAt (fAt Try.f23 [1,1,1,0,1,0,0,1,0,0,1,0,0,1,0,0,1,1,0,1,0,0,1,0,0,1,1,1,0,1,0])).drop 13) ((FF 193 d) |>.set 101 (.bool false)) H ((hSeq (gCode Try.prog call k (fAt Try.f23 [1,1,1,0,1,0,0,1,0,0,1,0,0,1,0,0,1,1,0,1,0,0,1,0,0,1,1,1,0,1,1])) (hBlock 5 (hSeq (gCode Try.prog call k (fAt Try.f23 [1,1,1,0,1,0,0,1,0,0,1,0,0,1,0,0,1,1,0,1,0,0,1,1])) (hLoop ag_l14 (hBlock 4 (hSeq (gCode Try.prog call k (fAt Try.f23 [1,1,1,0,1,0,0,1,0,0,1,0,0,1,0,0,1,1,1])) (hBlock 3 (hSeq (gCode Try.prog call k (fAt Try.f23 [1,1,1,0,1,0,0,1,0,0,1,0,0,1,1])) (hLoop ag_l8 (hBlock 2 (hBlock 1 (hSeq (gCode Try.prog call k (fAt Try.f23 [1,1,1,0,1,0,0,1,1])) (hLoop ag_l5 (hBlock 0 (hSeq (gCode Try.prog call k (fAt Try.f23 [1,1,1,1])) (hFin Try.prog Try.f23)))))))))))))))) .normal) =
  onV ((oBin Try.prog .add 3 (d 7) (.int .i64 1)).filter closed) fun v1 =>
  (sg_l14 (d 0) (d 3) (d 4) (d 5) (d 6) v1 H) := by
  rw [s23_74]
  rw [hSeq_n]
  rw [n23_199]
  refine (onBool_ff (by kernel_rfl)).trans ?_
  rw [n23_200]
  rw [hBlock_n]
  rw [hSeq_n]
  rw [n23_177]
  rw [s23_75]
  refine onV_c fun v1 => ?_
  rw [hLoop_n]
  rw [show ((FF 193 d) |>.set 101 (.bool false) |>.set 102 undef |>.set 103 undef |>.set 104 undef |>.set 105 undef |>.set 106 undef |>.set 107 (.bool false) |>.set 64 (d 7) |>.set 65 v1 |>.set 7 v1) = (FF 193 (gf ((FF 193 d) |>.set 101 (.bool false) |>.set 102 undef |>.set 103 undef |>.set 104 undef |>.set 105 undef |>.set 106 undef |>.set 107 (.bool false) |>.set 64 (d 7) |>.set 65 v1 |>.set 7 v1))) from by kernel_rfl]
  exact (f23_l14_at (d := gf ((FF 193 d) |>.set 101 (.bool false) |>.set 102 undef |>.set 103 undef |>.set 104 undef |>.set 105 undef |>.set 106 undef |>.set 107 (.bool false) |>.set 64 (d 7) |>.set 65 v1 |>.set 7 v1)) h_l14).trans (by kernel_rfl)
theorem f23_g21_13_eq (call : Handle) (k : Nat) (ag_l5 : GA → GH → M (Value × GH)) (sg_l5 : Value → Value → Value → GH → M (Value × GH)) (h_l5 : f23_l5_P ag_l5 sg_l5) (ag_l8 : GA → GH → M (Value × GH)) (sg_l8 : Value → Value → Value → Value → GH → M (Value × GH)) (h_l8 : f23_l8_P ag_l8 sg_l8) (ag_l14 : GA → GH → M (Value × GH)) (sg_l14 : Value → Value → Value → Value → Value → Value → GH → M (Value × GH)) (h_l14 : f23_l14_P ag_l14 sg_l14) : onGrd true xg (gOps Try.prog 0 call (opsAt (fAt Try.f23 [1,1,1,0,1,0,0,1,0,0,1,0,0,1,0,0,1,1,0,1,0,0,1,0,0,1,1,1,0,1,0])) ((opsAt (fAt Try.f23 [1,1,1,0,1,0,0,1,0,0,1,0,0,1,0,0,1,1,0,1,0,0,1,0,0,1,1,1,0,1,0])).drop 13) ((FF 193 d) |>.set 101 xg) H ((hSeq (gCode Try.prog call k (fAt Try.f23 [1,1,1,0,1,0,0,1,0,0,1,0,0,1,0,0,1,1,0,1,0,0,1,0,0,1,1,1,0,1,1])) (hBlock 5 (hSeq (gCode Try.prog call k (fAt Try.f23 [1,1,1,0,1,0,0,1,0,0,1,0,0,1,0,0,1,1,0,1,0,0,1,1])) (hLoop ag_l14 (hBlock 4 (hSeq (gCode Try.prog call k (fAt Try.f23 [1,1,1,0,1,0,0,1,0,0,1,0,0,1,0,0,1,1,1])) (hBlock 3 (hSeq (gCode Try.prog call k (fAt Try.f23 [1,1,1,0,1,0,0,1,0,0,1,0,0,1,1])) (hLoop ag_l8 (hBlock 2 (hBlock 1 (hSeq (gCode Try.prog call k (fAt Try.f23 [1,1,1,0,1,0,0,1,1])) (hLoop ag_l5 (hBlock 0 (hSeq (gCode Try.prog call k (fAt Try.f23 [1,1,1,1])) (hFin Try.prog Try.f23)))))))))))))))) .normal)) =
  f23_g21_13 call k sg_l5 sg_l8 sg_l14 xg (d 0) (d 3) (d 4) (d 5) (d 6) (d 7) (d 8) (d 9) H := by
  cases xg with
  | bool b => cases b with
    | true => exact onGrd_b.trans (f23_g21_13_true call k ag_l5 sg_l5 h_l5 ag_l8 sg_l8 h_l8 ag_l14 sg_l14 h_l14)
    | false => exact onGrd_b.trans (f23_g21_13_false call k ag_l5 sg_l5 h_l5 ag_l8 sg_l8 h_l8 ag_l14 sg_l14 h_l14)
  | _ => kernel_rfl
noncomputable def f23_g21_6 (call : Handle) (k : Nat) (sg_l5 : Value → Value → Value → GH → M (Value × GH)) (sg_l8 : Value → Value → Value → Value → GH → M (Value × GH)) (sg_l14 : Value → Value → Value → Value → Value → Value → GH → M (Value × GH)) (x94 : Value) (x0 x3 x4 x5 x6 x7 x8 x9 : Value) (H : GH) : M (Value × GH) :=
 onBool (asB x94)
  (onV (oFieldAddr Try.prog 157 x9 1) fun v1 =>
  onV (gLoad Try.prog 4 v1 H) fun v2 =>
  onV (oFieldAddr Try.prog 157 x8 1) fun v3 =>
  onV (gLoad Try.prog 4 v3 H) fun v4 =>
  onV ((oBin Try.prog .eql 4 v2 v4).filter closed) fun v5 =>
  (f23_g21_13 call k (sg_l5) (sg_l8) (sg_l14) v5 x0 x3 x4 x5 x6 x7 x8 x9 H))
  ((f23_r15 call k (sg_l5) (sg_l8) (sg_l14) x0 x3 x4 x5 x6 x7 H))
theorem f23_g21_6_true (call : Handle) (k : Nat) (ag_l5 : GA → GH → M (Value × GH)) (sg_l5 : Value → Value → Value → GH → M (Value × GH)) (h_l5 : f23_l5_P ag_l5 sg_l5) (ag_l8 : GA → GH → M (Value × GH)) (sg_l8 : Value → Value → Value → Value → GH → M (Value × GH)) (h_l8 : f23_l8_P ag_l8 sg_l8) (ag_l14 : GA → GH → M (Value × GH)) (sg_l14 : Value → Value → Value → Value → Value → Value → GH → M (Value × GH)) (h_l14 : f23_l14_P ag_l14 sg_l14) : gOps Try.prog 0 call (opsAt (fAt Try.f23 [1,1,1,0,1,0,0,1,0,0,1,0,0,1,0,0,1,1,0,1,0,0,1,0,0,1,1,1,0,1,0])) ((opsAt (fAt Try.f23 [1,1,1,0,1,0,0,1,0,0,1,0,0,1,0,0,1,1,0,1,0,0,1,0,0,1,1,1,0,1,0])).drop 6) ((FF 193 d) |>.set 94 (.bool true)) H ((hSeq (gCode Try.prog call k (fAt Try.f23 [1,1,1,0,1,0,0,1,0,0,1,0,0,1,0,0,1,1,0,1,0,0,1,0,0,1,1,1,0,1,1])) (hBlock 5 (hSeq (gCode Try.prog call k (fAt Try.f23 [1,1,1,0,1,0,0,1,0,0,1,0,0,1,0,0,1,1,0,1,0,0,1,1])) (hLoop ag_l14 (hBlock 4 (hSeq (gCode Try.prog call k (fAt Try.f23 [1,1,1,0,1,0,0,1,0,0,1,0,0,1,0,0,1,1,1])) (hBlock 3 (hSeq (gCode Try.prog call k (fAt Try.f23 [1,1,1,0,1,0,0,1,0,0,1,0,0,1,1])) (hLoop ag_l8 (hBlock 2 (hBlock 1 (hSeq (gCode Try.prog call k (fAt Try.f23 [1,1,1,0,1,0,0,1,1])) (hLoop ag_l5 (hBlock 0 (hSeq (gCode Try.prog call k (fAt Try.f23 [1,1,1,1])) (hFin Try.prog Try.f23)))))))))))))))) .normal) =
  onV (oFieldAddr Try.prog 157 (d 9) 1) fun v1 =>
  onV (gLoad Try.prog 4 v1 H) fun v2 =>
  onV (oFieldAddr Try.prog 157 (d 8) 1) fun v3 =>
  onV (gLoad Try.prog 4 v3 H) fun v4 =>
  onV ((oBin Try.prog .eql 4 v2 v4).filter closed) fun v5 =>
  (f23_g21_13 call k (sg_l5) (sg_l8) (sg_l14) v5 (d 0) (d 3) (d 4) (d 5) (d 6) (d 7) (d 8) (d 9) H) := by
  rw [gOps_split 6 7, s23_69]
  refine onV_c fun v1 => ?_
  refine onV_c fun v2 => ?_
  refine onV_c fun v3 => ?_
  refine onV_c fun v4 => ?_
  refine onV_c fun v5 => ?_
  rw [show ((FF 193 d) |>.set 94 (.bool true) |>.set 95 v1 |>.set 96 v2 |>.set 97 v3 |>.set 98 v4 |>.set 99 v5 |>.set 100 v5 |>.set 101 v5) = ((FF 193 (gf ((FF 193 d) |>.set 94 (.bool true) |>.set 95 v1 |>.set 96 v2 |>.set 97 v3 |>.set 98 v4 |>.set 99 v5 |>.set 100 v5 |>.set 101 v5))) |>.set 101 v5) from by kernel_rfl]
  exact (f23_g21_13_eq (d := gf ((FF 193 d) |>.set 94 (.bool true) |>.set 95 v1 |>.set 96 v2 |>.set 97 v3 |>.set 98 v4 |>.set 99 v5 |>.set 100 v5 |>.set 101 v5)) call k ag_l5 sg_l5 h_l5 ag_l8 sg_l8 h_l8 ag_l14 sg_l14 h_l14).trans (by kernel_rfl)
theorem f23_g21_6_false (call : Handle) (k : Nat) (ag_l5 : GA → GH → M (Value × GH)) (sg_l5 : Value → Value → Value → GH → M (Value × GH)) (h_l5 : f23_l5_P ag_l5 sg_l5) (ag_l8 : GA → GH → M (Value × GH)) (sg_l8 : Value → Value → Value → Value → GH → M (Value × GH)) (h_l8 : f23_l8_P ag_l8 sg_l8) (ag_l14 : GA → GH → M (Value × GH)) (sg_l14 : Value → Value → Value → Value → Value → Value → GH → M (Value × GH)) (h_l14 : f23_l14_P ag_l14 sg_l14) : gOps Try.prog 0 call (opsAt (fAt Try.f23 [1,1,1,0,1,0,0,1,0,0,1,0,0,1,0,0,1,1,0,1,0,0,1,0,0,1,1,1,0,1,0])) ((opsAt (fAt Try.f23 [1,1,1,0,1,0,0,1,0,0,1,0,0,1,0,0,1,1,0,1,0,0,1,0,0,1,1,1,0,1,0])).drop 6) ((FF 193 d) |>.set 94 (.bool false)) H ((hSeq (gCode Try.prog call k (fAt Try.f23 [1,1,1,0,1,0,0,1,0,0,1,0,0,1,0,0,1,1,0,1,0,0,1,0,0,1,1,1,0,1,1])) (hBlock 5 (hSeq (gCode Try.prog call k (fAt Try.f23 [1,1,1,0,1,0,0,1,0,0,1,0,0,1,0,0,1,1,0,1,0,0,1,1])) (hLoop ag_l14 (hBlock 4 (hSeq (gCode Try.prog call k (fAt Try.f23 [1,1,1,0,1,0,0,1,0,0,1,0,0,1,0,0,1,1,1])) (hBlock 3 (hSeq (gCode Try.prog call k (fAt Try.f23 [1,1,1,0,1,0,0,1,0,0,1,0,0,1,1])) (hLoop ag_l8 (hBlock 2 (hBlock 1 (hSeq (gCode Try.prog call k (fAt Try.f23 [1,1,1,0,1,0,0,1,1])) (hLoop ag_l5 (hBlock 0 (hSeq (gCode Try.prog call k (fAt Try.f23 [1,1,1,1])) (hFin Try.prog Try.f23)))))))))))))))) .normal) =
  (f23_r15 call k (sg_l5) (sg_l8) (sg_l14) (d 0) (d 3) (d 4) (d 5) (d 6) (d 7) H) := by
  rw [s23_70]
  rw [hSeq_n]
  rw [n23_199]
  refine (onBool_ff (by kernel_rfl)).trans ?_
  rw [n23_200]
  rw [hBlock_n]
  rw [hSeq_n]
  rw [show ((FF 193 d) |>.set 94 (.bool false) |>.set 95 undef |>.set 96 undef |>.set 97 undef |>.set 98 undef |>.set 99 undef |>.set 100 (.bool false) |>.set 101 (.bool false) |>.set 102 undef |>.set 103 undef |>.set 104 undef |>.set 105 undef |>.set 106 undef |>.set 107 (.bool false)) = (FF 193 (gf ((FF 193 d) |>.set 94 (.bool false) |>.set 95 undef |>.set 96 undef |>.set 97 undef |>.set 98 undef |>.set 99 undef |>.set 100 (.bool false) |>.set 101 (.bool false) |>.set 102 undef |>.set 103 undef |>.set 104 undef |>.set 105 undef |>.set 106 undef |>.set 107 (.bool false)))) from by kernel_rfl]
  exact (f23_r15_eq (d := gf ((FF 193 d) |>.set 94 (.bool false) |>.set 95 undef |>.set 96 undef |>.set 97 undef |>.set 98 undef |>.set 99 undef |>.set 100 (.bool false) |>.set 101 (.bool false) |>.set 102 undef |>.set 103 undef |>.set 104 undef |>.set 105 undef |>.set 106 undef |>.set 107 (.bool false))) call k ag_l5 sg_l5 h_l5 ag_l8 sg_l8 h_l8 ag_l14 sg_l14 h_l14).trans (by kernel_rfl)
theorem f23_g21_6_eq (call : Handle) (k : Nat) (ag_l5 : GA → GH → M (Value × GH)) (sg_l5 : Value → Value → Value → GH → M (Value × GH)) (h_l5 : f23_l5_P ag_l5 sg_l5) (ag_l8 : GA → GH → M (Value × GH)) (sg_l8 : Value → Value → Value → Value → GH → M (Value × GH)) (h_l8 : f23_l8_P ag_l8 sg_l8) (ag_l14 : GA → GH → M (Value × GH)) (sg_l14 : Value → Value → Value → Value → Value → Value → GH → M (Value × GH)) (h_l14 : f23_l14_P ag_l14 sg_l14) : onGrd true xg (gOps Try.prog 0 call (opsAt (fAt Try.f23 [1,1,1,0,1,0,0,1,0,0,1,0,0,1,0,0,1,1,0,1,0,0,1,0,0,1,1,1,0,1,0])) ((opsAt (fAt Try.f23 [1,1,1,0,1,0,0,1,0,0,1,0,0,1,0,0,1,1,0,1,0,0,1,0,0,1,1,1,0,1,0])).drop 6) ((FF 193 d) |>.set 94 xg) H ((hSeq (gCode Try.prog call k (fAt Try.f23 [1,1,1,0,1,0,0,1,0,0,1,0,0,1,0,0,1,1,0,1,0,0,1,0,0,1,1,1,0,1,1])) (hBlock 5 (hSeq (gCode Try.prog call k (fAt Try.f23 [1,1,1,0,1,0,0,1,0,0,1,0,0,1,0,0,1,1,0,1,0,0,1,1])) (hLoop ag_l14 (hBlock 4 (hSeq (gCode Try.prog call k (fAt Try.f23 [1,1,1,0,1,0,0,1,0,0,1,0,0,1,0,0,1,1,1])) (hBlock 3 (hSeq (gCode Try.prog call k (fAt Try.f23 [1,1,1,0,1,0,0,1,0,0,1,0,0,1,1])) (hLoop ag_l8 (hBlock 2 (hBlock 1 (hSeq (gCode Try.prog call k (fAt Try.f23 [1,1,1,0,1,0,0,1,1])) (hLoop ag_l5 (hBlock 0 (hSeq (gCode Try.prog call k (fAt Try.f23 [1,1,1,1])) (hFin Try.prog Try.f23)))))))))))))))) .normal)) =
  f23_g21_6 call k sg_l5 sg_l8 sg_l14 xg (d 0) (d 3) (d 4) (d 5) (d 6) (d 7) (d 8) (d 9) H := by
  cases xg with
  | bool b => cases b with
    | true => exact onGrd_b.trans (f23_g21_6_true call k ag_l5 sg_l5 h_l5 ag_l8 sg_l8 h_l8 ag_l14 sg_l14 h_l14)
    | false => exact onGrd_b.trans (f23_g21_6_false call k ag_l5 sg_l5 h_l5 ag_l8 sg_l8 h_l8 ag_l14 sg_l14 h_l14)
  | _ => kernel_rfl
noncomputable def f23_r21 (call : Handle) (k : Nat) (sg_l5 : Value → Value → Value → GH → M (Value × GH)) (sg_l8 : Value → Value → Value → Value → GH → M (Value × GH)) (sg_l14 : Value → Value → Value → Value → Value → Value → GH → M (Value × GH)) (x0 x3 x4 x5 x6 x7 x8 x9 : Value) (H : GH) : M (Value × GH) :=
  onV (oFieldAddr Try.prog 157 x9 0) fun v1 =>
  onV (gLoad Try.prog 29 v1 H) fun v2 =>
  onV (oFieldAddr Try.prog 157 x8 0) fun v3 =>
  onV (gLoad Try.prog 29 v3 H) fun v4 =>
  onV ((oBin Try.prog .eql 29 v2 v4).filter closed) fun v5 =>
  (f23_g21_6 call k (sg_l5) (sg_l8) (sg_l14) v5 x0 x3 x4 x5 x6 x7 x8 x9 H)
theorem f23_r21_eq (call : Handle) (k : Nat) (ag_l5 : GA → GH → M (Value × GH)) (sg_l5 : Value → Value → Value → GH → M (Value × GH)) (h_l5 : f23_l5_P ag_l5 sg_l5) (ag_l8 : GA → GH → M (Value × GH)) (sg_l8 : Value → Value → Value → Value → GH → M (Value × GH)) (h_l8 : f23_l8_P ag_l8 sg_l8) (ag_l14 : GA → GH → M (Value × GH)) (sg_l14 : Value → Value → Value → Value → Value → Value → GH → M (Value × GH)) (h_l14 : f23_l14_P ag_l14 sg_l14) : gCode Try.prog call k (fAt Try.f23 [1,1,1,0,1,0,0,1,0,0,1,0,0,1,0,0,1,1,0,1,0,0,1,0,0,1,1,1,0,1,0]) (FF 193 d) H (hSeq (gCode Try.prog call k (fAt Try.f23 [1,1,1,0,1,0,0,1,0,0,1,0,0,1,0,0,1,1,0,1,0,0,1,0,0,1,1,1,0,1,1])) (hBlock 5 (hSeq (gCode Try.prog call k (fAt Try.f23 [1,1,1,0,1,0,0,1,0,0,1,0,0,1,0,0,1,1,0,1,0,0,1,1])) (hLoop ag_l14 (hBlock 4 (hSeq (gCode Try.prog call k (fAt Try.f23 [1,1,1,0,1,0,0,1,0,0,1,0,0,1,0,0,1,1,1])) (hBlock 3 (hSeq (gCode Try.prog call k (fAt Try.f23 [1,1,1,0,1,0,0,1,0,0,1,0,0,1,1])) (hLoop ag_l8 (hBlock 2 (hBlock 1 (hSeq (gCode Try.prog call k (fAt Try.f23 [1,1,1,0,1,0,0,1,1])) (hLoop ag_l5 (hBlock 0 (hSeq (gCode Try.prog call k (fAt Try.f23 [1,1,1,1])) (hFin Try.prog Try.f23)))))))))))))))) = f23_r21 call k sg_l5 sg_l8 sg_l14 (d 0) (d 3) (d 4) (d 5) (d 6) (d 7) (d 8) (d 9) H := by
  unfold f23_r21
  rw [n23_198]
  rw [gOps_split 0 6, s23_68]
  refine onV_c fun v1 => ?_
  refine onV_c fun v2 => ?_
  refine onV_c fun v3 => ?_
  refine onV_c fun v4 => ?_
  refine onV_c fun v5 => ?_
  rw [show ((FF 193 d) |>.set 89 v1 |>.set 90 v2 |>.set 91 v3 |>.set 92 v4 |>.set 93 v5 |>.set 94 v5) = ((FF 193 (gf ((FF 193 d) |>.set 89 v1 |>.set 90 v2 |>.set 91 v3 |>.set 92 v4 |>.set 93 v5 |>.set 94 v5))) |>.set 94 v5) from by kernel_rfl]
  exact (f23_g21_6_eq (d := gf ((FF 193 d) |>.set 89 v1 |>.set 90 v2 |>.set 91 v3 |>.set 92 v4 |>.set 93 v5 |>.set 94 v5)) call k ag_l5 sg_l5 h_l5 ag_l8 sg_l8 h_l8 ag_l14 sg_l14 h_l14).trans (by kernel_rfl)
noncomputable def f23_r20 (call : Handle) (k : Nat) (sg_l5 : Value → Value → Value → GH → M (Value × GH)) (sg_l8 : Value → Value → Value → Value → GH → M (Value × GH)) (sg_l14 : Value → Value → Value → Value → Value → Value → GH → M (Value × GH)) (x0 x3 x4 x5 x6 x7 x8 : Value) (H : GH) : M (Value × GH) :=
  onV (oFieldAddr Try.prog 62 x6 3) fun v1 =>
  onV (gLoad Try.prog 60 v1 H) fun v2 =>
  onV ((oBin Try.prog .sub 3 x7 (.int .i64 1)).filter closed) fun v3 =>
  onV (oIndexAddr Try.prog 60 v2 v3) fun v4 =>
  onV (gLoad Try.prog 157 v4 H) fun v5 =>
  onH (gStore Try.prog 157 (.pointer (some ⟨H.n, 0, none⟩)) v5 (GH.push H (.row [(.int .u8 0), (.int .i64 0), (.bool false), (.int .u8 0)] 157 false))) fun H6 =>
  (f23_r21 call k (sg_l5) (sg_l8) (sg_l14) x0 x3 x4 x5 x6 x7 x8 (.pointer (some ⟨H.n, 0, none⟩)) H6)
theorem f23_r20_eq (call : Handle) (k : Nat) (ag_l5 : GA → GH → M (Value × GH)) (sg_l5 : Value → Value → Value → GH → M (Value × GH)) (h_l5 : f23_l5_P ag_l5 sg_l5) (ag_l8 : GA → GH → M (Value × GH)) (sg_l8 : Value → Value → Value → Value → GH → M (Value × GH)) (h_l8 : f23_l8_P ag_l8 sg_l8) (ag_l14 : GA → GH → M (Value × GH)) (sg_l14 : Value → Value → Value → Value → Value → Value → GH → M (Value × GH)) (h_l14 : f23_l14_P ag_l14 sg_l14) : gCode Try.prog call k (fAt Try.f23 [1,1,1,0,1,0,0,1,0,0,1,0,0,1,0,0,1,1,0,1,0,0,1,0,0,1,1,1,0,0]) (FF 193 d) H (hSeq (gCode Try.prog call k (fAt Try.f23 [1,1,1,0,1,0,0,1,0,0,1,0,0,1,0,0,1,1,0,1,0,0,1,0,0,1,1,1,0,1])) (hBlock 5 (hSeq (gCode Try.prog call k (fAt Try.f23 [1,1,1,0,1,0,0,1,0,0,1,0,0,1,0,0,1,1,0,1,0,0,1,1])) (hLoop ag_l14 (hBlock 4 (hSeq (gCode Try.prog call k (fAt Try.f23 [1,1,1,0,1,0,0,1,0,0,1,0,0,1,0,0,1,1,1])) (hBlock 3 (hSeq (gCode Try.prog call k (fAt Try.f23 [1,1,1,0,1,0,0,1,0,0,1,0,0,1,1])) (hLoop ag_l8 (hBlock 2 (hBlock 1 (hSeq (gCode Try.prog call k (fAt Try.f23 [1,1,1,0,1,0,0,1,1])) (hLoop ag_l5 (hBlock 0 (hSeq (gCode Try.prog call k (fAt Try.f23 [1,1,1,1])) (hFin Try.prog Try.f23)))))))))))))))) = f23_r20 call k sg_l5 sg_l8 sg_l14 (d 0) (d 3) (d 4) (d 5) (d 6) (d 7) (d 8) H := by
  unfold f23_r20
  rw [n23_193]
  rw [s23_64]
  refine onV_c fun v1 => ?_
  refine onV_c fun v2 => ?_
  refine onV_c fun v3 => ?_
  refine onV_c fun v4 => ?_
  refine onV_c fun v5 => ?_
  refine onH_c fun H6 => ?_
  rw [hSeq_n]
  rw [n23_194]
  rw [show ((FF 193 d) |>.set 83 v1 |>.set 84 v2 |>.set 85 (d 7) |>.set 86 v3 |>.set 87 v4 |>.set 88 v5 |>.set 9 (.pointer (some ⟨H.n, 0, none⟩))) = (FF 193 (gf ((FF 193 d) |>.set 83 v1 |>.set 84 v2 |>.set 85 (d 7) |>.set 86 v3 |>.set 87 v4 |>.set 88 v5 |>.set 9 (.pointer (some ⟨H.n, 0, none⟩))))) from by kernel_rfl]
  exact (f23_r21_eq (d := gf ((FF 193 d) |>.set 83 v1 |>.set 84 v2 |>.set 85 (d 7) |>.set 86 v3 |>.set 87 v4 |>.set 88 v5 |>.set 9 (.pointer (some ⟨H.n, 0, none⟩)))) call k ag_l5 sg_l5 h_l5 ag_l8 sg_l8 h_l8 ag_l14 sg_l14 h_l14).trans (by kernel_rfl)
noncomputable def f23_g17_4 (call : Handle) (k : Nat) (sg_l5 : Value → Value → Value → GH → M (Value × GH)) (sg_l8 : Value → Value → Value → Value → GH → M (Value × GH)) (sg_l14 : Value → Value → Value → Value → Value → Value → GH → M (Value × GH)) (x74 : Value) (x0 x3 x4 x5 x6 x7 x8 : Value) (H : GH) : M (Value × GH) :=
 onBool (asB x74)
  (some [((.int .i64 1), H)])
  (onV (oFieldAddr Try.prog 157 x8 0) fun v1 =>
  onV (gLoad Try.prog 29 v1 H) fun v2 =>
  onCall 0 call (.func (.func 74) #[] #[]) [x0, v2] H fun v3 H4 =>
  onV ((oUn Try.prog .not v3).filter closed) fun v5 =>
  onBool (asB v5)
  (some [((.int .i64 1), H4)])
  (onV ((oBin Try.prog .gtr 3 x7 (.int .i64 0)).filter closed) fun v6 =>
  onBool (asB v6)
  ((f23_r20 call k (sg_l5) (sg_l8) (sg_l14) x0 x3 x4 x5 x6 x7 x8 H4))
  (onV ((oBin Try.prog .add 3 x7 (.int .i64 1)).filter closed) fun v7 =>
  (sg_l14 x0 x3 x4 x5 x6 v7 H4))))
theorem f23_g17_4_true (call : Handle) (k : Nat) (ag_l5 : GA → GH → M (Value × GH)) (sg_l5 : Value → Value → Value → GH → M (Value × GH)) (h_l5 : f23_l5_P ag_l5 sg_l5) (ag_l8 : GA → GH → M (Value × GH)) (sg_l8 : Value → Value → Value → Value → GH → M (Value × GH)) (h_l8 : f23_l8_P ag_l8 sg_l8) (ag_l14 : GA → GH → M (Value × GH)) (sg_l14 : Value → Value → Value → Value → Value → Value → GH → M (Value × GH)) (h_l14 : f23_l14_P ag_l14 sg_l14) : gOps Try.prog 0 call (opsAt (fAt Try.f23 [1,1,1,0,1,0,0,1,0,0,1,0,0,1,0,0,1,1,0,1,0,0,1,0,0,1,0,0])) ((opsAt (fAt Try.f23 [1,1,1,0,1,0,0,1,0,0,1,0,0,1,0,0,1,1,0,1,0,0,1,0,0,1,0,0])).drop 4) ((FF 193 d) |>.set 74 (.bool true)) H ((hSeq (gCode Try.prog call k (fAt Try.f23 [1,1,1,0,1,0,0,1,0,0,1,0,0,1,0,0,1,1,0,1,0,0,1,0,0,1,0,1])) (hSeq (gCode Try.prog call k (fAt Try.f23 [1,1,1,0,1,0,0,1,0,0,1,0,0,1,0,0,1,1,0,1,0,0,1,0,0,1,1])) (hBlock 5 (hSeq (gCode Try.prog call k (fAt Try.f23 [1,1,1,0,1,0,0,1,0,0,1,0,0,1,0,0,1,1,0,1,0,0,1,1])) (hLoop ag_l14 (hBlock 4 (hSeq (gCode Try.prog call k (fAt Try.f23 [1,1,1,0,1,0,0,1,0,0,1,0,0,1,0,0,1,1,1])) (hBlock 3 (hSeq (gCode Try.prog call k (fAt Try.f23 [1,1,1,0,1,0,0,1,0,0,1,0,0,1,1])) (hLoop ag_l8 (hBlock 2 (hBlock 1 (hSeq (gCode Try.prog call k (fAt Try.f23 [1,1,1,0,1,0,0,1,1])) (hLoop ag_l5 (hBlock 0 (hSeq (gCode Try.prog call k (fAt Try.f23 [1,1,1,1])) (hFin Try.prog Try.f23))))))))))))))))) .normal) =
  some [((.int .i64 1), H)] := by
  rw [s23_55]
  rw [hSeq_n]
  rw [n23_167]
  refine (onBool_tt (by kernel_rfl)).trans ?_
  rw [n23_168]
  rw [n23_169]
  rw [s23_56]
  rw [hSeq_n]
  rw [n23_170]
  rw [hSeq_r, hBlock_r, hSeq_r, hLoop_r, hBlock_r, hSeq_r, hBlock_r, hSeq_r, hLoop_r, hBlock_r, hBlock_r, hSeq_r, hLoop_r, hBlock_r, hSeq_r]
  kernel_rfl
theorem f23_g17_4_false (call : Handle) (k : Nat) (ag_l5 : GA → GH → M (Value × GH)) (sg_l5 : Value → Value → Value → GH → M (Value × GH)) (h_l5 : f23_l5_P ag_l5 sg_l5) (ag_l8 : GA → GH → M (Value × GH)) (sg_l8 : Value → Value → Value → Value → GH → M (Value × GH)) (h_l8 : f23_l8_P ag_l8 sg_l8) (ag_l14 : GA → GH → M (Value × GH)) (sg_l14 : Value → Value → Value → Value → Value → Value → GH → M (Value × GH)) (h_l14 : f23_l14_P ag_l14 sg_l14) : gOps Try.prog 0 call (opsAt (fAt Try.f23 [1,1,1,0,1,0,0,1,0,0,1,0,0,1,0,0,1,1,0,1,0,0,1,0,0,1,0,0])) ((opsAt (fAt Try.f23 [1,1,1,0,1,0,0,1,0,0,1,0,0,1,0,0,1,1,0,1,0,0,1,0,0,1,0,0])).drop 4) ((FF 193 d) |>.set 74 (.bool false)) H ((hSeq (gCode Try.prog call k (fAt Try.f23 [1,1,1,0,1,0,0,1,0,0,1,0,0,1,0,0,1,1,0,1,0,0,1,0,0,1,0,1])) (hSeq (gCode Try.prog call k (fAt Try.f23 [1,1,1,0,1,0,0,1,0,0,1,0,0,1,0,0,1,1,0,1,0,0,1,0,0,1,1])) (hBlock 5 (hSeq (gCode Try.prog call k (fAt Try.f23 [1,1,1,0,1,0,0,1,0,0,1,0,0,1,0,0,1,1,0,1,0,0,1,1])) (hLoop ag_l14 (hBlock 4 (hSeq (gCode Try.prog call k (fAt Try.f23 [1,1,1,0,1,0,0,1,0,0,1,0,0,1,0,0,1,1,1])) (hBlock 3 (hSeq (gCode Try.prog call k (fAt Try.f23 [1,1,1,0,1,0,0,1,0,0,1,0,0,1,1])) (hLoop ag_l8 (hBlock 2 (hBlock 1 (hSeq (gCode Try.prog call k (fAt Try.f23 [1,1,1,0,1,0,0,1,1])) (hLoop ag_l5 (hBlock 0 (hSeq (gCode Try.prog call k (fAt Try.f23 [1,1,1,1])) (hFin Try.prog Try.f23))))))))))))))))) .normal) =
  onV (oFieldAddr Try.prog 157 (d 8) 0) fun v1 =>
  onV (gLoad Try.prog 29 v1 H) fun v2 =>
  onCall 0 call (.func (.func 74) #[] #[]) [(d 0), v2] H fun v3 H4 =>
  onV ((oUn Try.prog .not v3).filter closed) fun v5 =>
  onBool (asB v5)
  (some [((.int .i64 1), H4)])
  (onV ((oBin Try.prog .gtr 3 (d 7) (.int .i64 0)).filter closed) fun v6 =>
  onBool (asB v6)
  ((f23_r20 call k (sg_l5) (sg_l8) (sg_l14) (d 0) (d 3) (d 4) (d 5) (d 6) (d 7) (d 8) H4))
  (onV ((oBin Try.prog .add 3 (d 7) (.int .i64 1)).filter closed) fun v7 =>
  (sg_l14 (d 0) (d 3) (d 4) (d 5) (d 6) v7 H4))) := by
  rw [s23_57]
  refine onV_c fun v1 => ?_
  refine onV_c fun v2 => ?_
  refine onCall_c fun v3 H4 => ?_
  refine onV_c fun v5 => ?_
  rw [hSeq_n]
  rw [n23_167]
  refine onBool_cc (by kernel_rfl) ?_ ?_
  · rw [n23_168]
    rw [n23_169]
    rw [s23_58]
    rw [hSeq_n]
    rw [n23_170]
    rw [hSeq_r, hBlock_r, hSeq_r, hLoop_r, hBlock_r, hSeq_r, hBlock_r, hSeq_r, hLoop_r, hBlock_r, hBlock_r, hSeq_r, hLoop_r, hBlock_r, hSeq_r]
    kernel_rfl
  · rw [n23_171]
    rw [hSeq_n]
    rw [n23_172]
    rw [n23_173]
    rw [s23_59]
    refine onV_c fun v6 => ?_
    rw [hSeq_n]
    rw [n23_174]
    refine onBool_cc (by kernel_rfl) ?_ ?_
    · rw [n23_175]
      rw [show ((FF 193 d) |>.set 74 (.bool false) |>.set 75 (d 0) |>.set 76 v1 |>.set 77 v2 |>.set 78 v3 |>.set 79 v5 |>.set 80 v5 |>.set 81 (d 7) |>.set 82 v6) = (FF 193 (gf ((FF 193 d) |>.set 74 (.bool false) |>.set 75 (d 0) |>.set 76 v1 |>.set 77 v2 |>.set 78 v3 |>.set 79 v5 |>.set 80 v5 |>.set 81 (d 7) |>.set 82 v6))) from by kernel_rfl]
      exact (f23_r20_eq (d := gf ((FF 193 d) |>.set 74 (.bool false) |>.set 75 (d 0) |>.set 76 v1 |>.set 77 v2 |>.set 78 v3 |>.set 79 v5 |>.set 80 v5 |>.set 81 (d 7) |>.set 82 v6)) call k ag_l5 sg_l5 h_l5 ag_l8 sg_l8 h_l8 ag_l14 sg_l14 h_l14).trans (by kernel_rfl)
    · rw [n23_176]
      rw [hBlock_n]
      rw [hSeq_n]
      rw [n23_177]
      rw [s23_60]
      refine onV_c fun v7 => ?_
      rw [hLoop_n]
      rw [show ((FF 193 d) |>.set 74 (.bool false) |>.set 75 (d 0) |>.set 76 v1 |>.set 77 v2 |>.set 78 v3 |>.set 79 v5 |>.set 80 v5 |>.set 81 (d 7) |>.set 82 v6 |>.set 64 (d 7) |>.set 65 v7 |>.set 7 v7) = (FF 193 (gf ((FF 193 d) |>.set 74 (.bool false) |>.set 75 (d 0) |>.set 76 v1 |>.set 77 v2 |>.set 78 v3 |>.set 79 v5 |>.set 80 v5 |>.set 81 (d 7) |>.set 82 v6 |>.set 64 (d 7) |>.set 65 v7 |>.set 7 v7))) from by kernel_rfl]
      exact (f23_l14_at (d := gf ((FF 193 d) |>.set 74 (.bool false) |>.set 75 (d 0) |>.set 76 v1 |>.set 77 v2 |>.set 78 v3 |>.set 79 v5 |>.set 80 v5 |>.set 81 (d 7) |>.set 82 v6 |>.set 64 (d 7) |>.set 65 v7 |>.set 7 v7)) h_l14).trans (by kernel_rfl)
theorem f23_g17_4_eq (call : Handle) (k : Nat) (ag_l5 : GA → GH → M (Value × GH)) (sg_l5 : Value → Value → Value → GH → M (Value × GH)) (h_l5 : f23_l5_P ag_l5 sg_l5) (ag_l8 : GA → GH → M (Value × GH)) (sg_l8 : Value → Value → Value → Value → GH → M (Value × GH)) (h_l8 : f23_l8_P ag_l8 sg_l8) (ag_l14 : GA → GH → M (Value × GH)) (sg_l14 : Value → Value → Value → Value → Value → Value → GH → M (Value × GH)) (h_l14 : f23_l14_P ag_l14 sg_l14) : onGrd true xg (gOps Try.prog 0 call (opsAt (fAt Try.f23 [1,1,1,0,1,0,0,1,0,0,1,0,0,1,0,0,1,1,0,1,0,0,1,0,0,1,0,0])) ((opsAt (fAt Try.f23 [1,1,1,0,1,0,0,1,0,0,1,0,0,1,0,0,1,1,0,1,0,0,1,0,0,1,0,0])).drop 4) ((FF 193 d) |>.set 74 xg) H ((hSeq (gCode Try.prog call k (fAt Try.f23 [1,1,1,0,1,0,0,1,0,0,1,0,0,1,0,0,1,1,0,1,0,0,1,0,0,1,0,1])) (hSeq (gCode Try.prog call k (fAt Try.f23 [1,1,1,0,1,0,0,1,0,0,1,0,0,1,0,0,1,1,0,1,0,0,1,0,0,1,1])) (hBlock 5 (hSeq (gCode Try.prog call k (fAt Try.f23 [1,1,1,0,1,0,0,1,0,0,1,0,0,1,0,0,1,1,0,1,0,0,1,1])) (hLoop ag_l14 (hBlock 4 (hSeq (gCode Try.prog call k (fAt Try.f23 [1,1,1,0,1,0,0,1,0,0,1,0,0,1,0,0,1,1,1])) (hBlock 3 (hSeq (gCode Try.prog call k (fAt Try.f23 [1,1,1,0,1,0,0,1,0,0,1,0,0,1,1])) (hLoop ag_l8 (hBlock 2 (hBlock 1 (hSeq (gCode Try.prog call k (fAt Try.f23 [1,1,1,0,1,0,0,1,1])) (hLoop ag_l5 (hBlock 0 (hSeq (gCode Try.prog call k (fAt Try.f23 [1,1,1,1])) (hFin Try.prog Try.f23))))))))))))))))) .normal)) =
  f23_g17_4 call k sg_l5 sg_l8 sg_l14 xg (d 0) (d 3) (d 4) (d 5) (d 6) (d 7) (d 8) H := by
  cases xg with
  | bool b => cases b with
    | true => exact onGrd_b.trans (f23_g17_4_true call k ag_l5 sg_l5 h_l5 ag_l8 sg_l8 h_l8 ag_l14 sg_l14 h_l14)
    | false => exact onGrd_b.trans (f23_g17_4_false call k ag_l5 sg_l5 h_l5 ag_l8 sg_l8 h_l8 ag_l14 sg_l14 h_l14)
  | _ => kernel_rfl
noncomputable def f23_r17 (call : Handle) (k : Nat) (sg_l5 : Value → Value → Value → GH → M (Value × GH)) (sg_l8 : Value → Value → Value → Value → GH → M (Value × GH)) (sg_l14 : Value → Value → Value → Value → Value → Value → GH → M (Value × GH)) (x0 x3 x4 x5 x6 x7 x8 : Value) (H : GH) : M (Value × GH) :=
  onV (oFieldAddr Try.prog 157 x8 2) fun v1 =>
  onV (gLoad Try.prog 155 v1 H) fun v2 =>
  onV ((oBin Try.prog .gtr 155 v2 (.int .u8 1)).filter closed) fun v3 =>
  (f23_g17_4 call k (sg_l5) (sg_l8) (sg_l14) v3 x0 x3 x4 x5 x6 x7 x8 H)
theorem f23_r17_eq (call : Handle) (k : Nat) (ag_l5 : GA → GH → M (Value × GH)) (sg_l5 : Value → Value → Value → GH → M (Value × GH)) (h_l5 : f23_l5_P ag_l5 sg_l5) (ag_l8 : GA → GH → M (Value × GH)) (sg_l8 : Value → Value → Value → Value → GH → M (Value × GH)) (h_l8 : f23_l8_P ag_l8 sg_l8) (ag_l14 : GA → GH → M (Value × GH)) (sg_l14 : Value → Value → Value → Value → Value → Value → GH → M (Value × GH)) (h_l14 : f23_l14_P ag_l14 sg_l14) : gCode Try.prog call k (fAt Try.f23 [1,1,1,0,1,0,0,1,0,0,1,0,0,1,0,0,1,1,0,1,0,0,1,0,0,1,0,0]) (FF 193 d) H (hSeq (gCode Try.prog call k (fAt Try.f23 [1,1,1,0,1,0,0,1,0,0,1,0,0,1,0,0,1,1,0,1,0,0,1,0,0,1,0,1])) (hSeq (gCode Try.prog call k (fAt Try.f23 [1,1,1,0,1,0,0,1,0,0,1,0,0,1,0,0,1,1,0,1,0,0,1,0,0,1,1])) (hBlock 5 (hSeq (gCode Try.prog call k (fAt Try.f23 [1,1,1,0,1,0,0,1,0,0,1,0,0,1,0,0,1,1,0,1,0,0,1,1])) (hLoop ag_l14 (hBlock 4 (hSeq (gCode Try.prog call k (fAt Try.f23 [1,1,1,0,1,0,0,1,0,0,1,0,0,1,0,0,1,1,1])) (hBlock 3 (hSeq (gCode Try.prog call k (fAt Try.f23 [1,1,1,0,1,0,0,1,0,0,1,0,0,1,1])) (hLoop ag_l8 (hBlock 2 (hBlock 1 (hSeq (gCode Try.prog call k (fAt Try.f23 [1,1,1,0,1,0,0,1,1])) (hLoop ag_l5 (hBlock 0 (hSeq (gCode Try.prog call k (fAt Try.f23 [1,1,1,1])) (hFin Try.prog Try.f23))))))))))))))))) = f23_r17 call k sg_l5 sg_l8 sg_l14 (d 0) (d 3) (d 4) (d 5) (d 6) (d 7) (d 8) H := by
  unfold f23_r17
  rw [n23_161]
  rw [gOps_split 0 4, s23_52]
  refine onV_c fun v1 => ?_
  refine onV_c fun v2 => ?_
  refine onV_c fun v3 => ?_
  rw [show ((FF 193 d) |>.set 71 v1 |>.set 72 v2 |>.set 73 v3 |>.set 74 v3) = ((FF 193 (gf ((FF 193 d) |>.set 71 v1 |>.set 72 v2 |>.set 73 v3 |>.set 74 v3))) |>.set 74 v3) from by kernel_rfl]
  exact (f23_g17_4_eq (d := gf ((FF 193 d) |>.set 71 v1 |>.set 72 v2 |>.set 73 v3 |>.set 74 v3)) call k ag_l5 sg_l5 h_l5 ag_l8 sg_l8 h_l8 ag_l14 sg_l14 h_l14).trans (by kernel_rfl)
noncomputable def f23_r25 (call : Handle) (k : Nat) (sg_l5 : Value → Value → Value → GH → M (Value × GH)) (sg_l8 : Value → Value → Value → Value → GH → M (Value × GH)) (sg_l24 : Value → Value → Value → Value → Value → Value → GH → M (Value × GH)) (x0 x3 x4 x5 x6 x10 : Value) (H : GH) : M (Value × GH) :=
  onV ((oBin Try.prog .add 3 x10 (.int .i64 1)).filter closed) fun v1 =>
  (sg_l24 x0 x3 x4 x5 x6 v1 H)
theorem f23_r25_eq (call : Handle) (k : Nat) (ag_l5 : GA → GH → M (Value × GH)) (sg_l5 : Value → Value → Value → GH → M (Value × GH)) (h_l5 : f23_l5_P ag_l5 sg_l5) (ag_l8 : GA → GH → M (Value × GH)) (sg_l8 : Value → Value → Value → Value → GH → M (Value × GH)) (h_l8 : f23_l8_P ag_l8 sg_l8) (ag_l24 : GA → GH → M (Value × GH)) (sg_l24 : Value → Value → Value → Value → Value → Value → GH → M (Value × GH)) (h_l24 : f23_l24_P ag_l24 sg_l24) : gCode Try.prog call k (fAt Try.f23 [1,1,1,0,1,0,0,1,0,0,1,0,0,1,0,0,1,1,1,0,1,0,0,1,1]) (FF 193 d) H (hLoop ag_l24 (hBlock 6 (hSeq (gCode Try.prog call k (fAt Try.f23 [1,1,1,0,1,0,0,1,0,0,1,0,0,1,0,0,1,1,1,1])) (hBlock 3 (hSeq (gCode Try.prog call k (fAt Try.f23 [1,1,1,0,1,0,0,1,0,0,1,0,0,1,1])) (hLoop ag_l8 (hBlock 2 (hBlock 1 (hSeq (gCode Try.prog call k (fAt Try.f23 [1,1,1,0,1,0,0,1,1])) (hLoop ag_l5 (hBlock 0 (hSeq (gCode Try.prog call k (fAt Try.f23 [1,1,1,1])) (hFin Try.prog Try.f23))))))))))))) = f23_r25 call k sg_l5 sg_l8 sg_l24 (d 0) (d 3) (d 4) (d 5) (d 6) (d 10) H := by
  unfold f23_r25
  rw [n23_195]
  rw [s23_65]
  refine onV_c fun v1 => ?_
  rw [hLoop_n]
  rw [show ((FF 193 d) |>.set 113 (d 10) |>.set 114 v1 |>.set 10 v1) = (FF 193 (gf ((FF 193 d) |>.set 113 (d 10) |>.set 114 v1 |>.set 10 v1))) from by kernel_rfl]
  exact (f23_l24_at (d := gf ((FF 193 d) |>.set 113 (d 10) |>.set 114 v1 |>.set 10 v1)) h_l24).trans (by kernel_rfl)
noncomputable def f23_r28 (call : Handle) (k : Nat) (sg_l5 : Value → Value → Value → GH → M (Value × GH)) (sg_l8 : Value → Value → Value → Value → GH → M (Value × GH)) (x0 x3 x4 x5 x6 : Value) (H : GH) : M (Value × GH) :=
  onV (oFieldAddr Try.prog 62 x6 2) fun v1 =>
  onV (gLoad Try.prog 26 v1 H) fun v2 =>
  onVH (gAppend Try.prog 26 26 x3 v2 H) fun v3 H4 =>
  onV ((oBin Try.prog .add 3 x5 (.int .i64 1)).filter closed) fun v5 =>
  (sg_l8 x0 v3 x4 v5 H4)
theorem f23_r28_eq (call : Handle) (k : Nat) (ag_l5 : GA → GH → M (Value × GH)) (sg_l5 : Value → Value → Value → GH → M (Value × GH)) (h_l5 : f23_l5_P ag_l5 sg_l5) (ag_l8 : GA → GH → M (Value × GH)) (sg_l8 : Value → Value → Value → Value → GH → M (Value × GH)) (h_l8 : f23_l8_P ag_l8 sg_l8) : gCode Try.prog call k (fAt Try.f23 [1,1,1,0,1,0,0,1,0,0,1,0,0,1,0,0,1,1,1,1]) (FF 193 d) H (hBlock 3 (hSeq (gCode Try.prog call k (fAt Try.f23 [1,1,1,0,1,0,0,1,0,0,1,0,0,1,1])) (hLoop ag_l8 (hBlock 2 (hBlock 1 (hSeq (gCode Try.prog call k (fAt Try.f23 [1,1,1,0,1,0,0,1,1])) (hLoop ag_l5 (hBlock 0 (hSeq (gCode Try.prog call k (fAt Try.f23 [1,1,1,1])) (hFin Try.prog Try.f23)))))))))) = f23_r28 call k sg_l5 sg_l8 (d 0) (d 3) (d 4) (d 5) (d 6) H := by
  unfold f23_r28
  rw [n23_196]
  rw [s23_66]
  refine onV_c fun v1 => ?_
  refine onV_c fun v2 => ?_
  refine onVH_c fun v3 H4 => ?_
  rw [hBlock_n]
  rw [hSeq_n]
  rw [n23_197]
  rw [s23_67]
  refine onV_c fun v5 => ?_
  rw [hLoop_n]
  rw [show ((FF 193 d) |>.set 123 (d 3) |>.set 124 v1 |>.set 125 v2 |>.set 126 v3 |>.set 3 v3 |>.set 32 (d 5) |>.set 33 v5 |>.set 5 v5) = (FF 193 (gf ((FF 193 d) |>.set 123 (d 3) |>.set 124 v1 |>.set 125 v2 |>.set 126 v3 |>.set 3 v3 |>.set 32 (d 5) |>.set 33 v5 |>.set 5 v5))) from by kernel_rfl]
  exact (f23_l8_at (d := gf ((FF 193 d) |>.set 123 (d 3) |>.set 124 v1 |>.set 125 v2 |>.set 126 v3 |>.set 3 v3 |>.set 32 (d 5) |>.set 33 v5 |>.set 5 v5)) h_l8).trans (by kernel_rfl)
noncomputable def f23_l24b (call : Handle) (k : Nat) (sg_l5 : Value → Value → Value → GH → M (Value × GH)) (sg_l8 : Value → Value → Value → Value → GH → M (Value × GH)) (sg_l24 : Value → Value → Value → Value → Value → Value → GH → M (Value × GH)) (x0 x3 x4 x5 x6 x10 : Value) (H : GH) : M (Value × GH) :=
  onV (oFieldAddr Try.prog 62 x6 2) fun v1 =>
  onV (gLoad Try.prog 26 v1 H) fun v2 =>
  onV (oLen Try.prog 26 v2) fun v3 =>
  onV ((oBin Try.prog .lss 3 x10 v3).filter closed) fun v4 =>
  onBool (asB v4)
  (onV (oFieldAddr Try.prog 62 x6 2) fun v5 =>
  onV (gLoad Try.prog 26 v5 H) fun v6 =>
  onV (oIndexAddr Try.prog 26 v6 x10) fun v7 =>
  onV (gLoad Try.prog 29 v7 H) fun v8 =>
  onCall 0 call (.func (.func 74) #[] #[]) [x0, v8] H fun v9 H10 =>
  onV ((oUn Try.prog .not v9).filter closed) fun v11 =>
  onBool (asB v11)
  (some [((.int .i64 1), H10)])
  ((f23_r25 call k (sg_l5) (sg_l8) (sg_l24) x0 x3 x4 x5 x6 x10 H10)))
  ((f23_r28 call k (sg_l5) (sg_l8) x0 x3 x4 x5 x6 H))
theorem f23_l24b_eq (call : Handle) (k : Nat) (ag_l5 : GA → GH → M (Value × GH)) (sg_l5 : Value → Value → Value → GH → M (Value × GH)) (h_l5 : f23_l5_P ag_l5 sg_l5) (ag_l8 : GA → GH → M (Value × GH)) (sg_l8 : Value → Value → Value → Value → GH → M (Value × GH)) (h_l8 : f23_l8_P ag_l8 sg_l8) (ag_l24 : GA → GH → M (Value × GH)) (sg_l24 : Value → Value → Value → Value → Value → Value → GH → M (Value × GH)) (h_l24 : f23_l24_P ag_l24 sg_l24) : gCode Try.prog call k (fAt Try.f23 [1,1,1,0,1,0,0,1,0,0,1,0,0,1,0,0,1,1,1,0,1,0,0]) (FF 193 d) H (hLoop ag_l24 (hBlock 6 (hSeq (gCode Try.prog call k (fAt Try.f23 [1,1,1,0,1,0,0,1,0,0,1,0,0,1,0,0,1,1,1,1])) (hBlock 3 (hSeq (gCode Try.prog call k (fAt Try.f23 [1,1,1,0,1,0,0,1,0,0,1,0,0,1,1])) (hLoop ag_l8 (hBlock 2 (hBlock 1 (hSeq (gCode Try.prog call k (fAt Try.f23 [1,1,1,0,1,0,0,1,1])) (hLoop ag_l5 (hBlock 0 (hSeq (gCode Try.prog call k (fAt Try.f23 [1,1,1,1])) (hFin Try.prog Try.f23))))))))))))) = f23_l24b call k sg_l5 sg_l8 sg_l24 (d 0) (d 3) (d 4) (d 5) (d 6) (d 10) H := by
  unfold f23_l24b
  rw [n23_178]
  rw [n23_179]
  rw [n23_180]
  rw [s23_61]
  refine onV_c fun v1 => ?_
  refine onV_c fun v2 => ?_
  refine onV_c fun v3 => ?_
  refine onV_c fun v4 => ?_
  rw [hSeq_n]
  rw [n23_181]
  refine onBool_cc (by kernel_rfl) ?_ ?_
  · rw [n23_182]
    rw [hSeq_n]
    rw [n23_183]
    rw [n23_184]
    rw [n23_185]
    rw [n23_186]
    rw [s23_62]
    refine onV_c fun v5 => ?_
    refine onV_c fun v6 => ?_
    refine onV_c fun v7 => ?_
    refine onV_c fun v8 => ?_
    refine onCall_c fun v9 H10 => ?_
    refine onV_c fun v11 => ?_
    rw [hSeq_n]
    rw [n23_187]
    refine onBool_cc (by kernel_rfl) ?_ ?_
    · rw [n23_188]
      rw [n23_189]
      rw [s23_63]
      rw [hSeq_n]
      rw [n23_190]
      rw [hBlock_r, hSeq_r, hLoop_r, hBlock_r, hSeq_r, hBlock_r, hSeq_r, hLoop_r, hBlock_r, hBlock_r, hSeq_r, hLoop_r, hBlock_r, hSeq_r]
      kernel_rfl
    · rw [n23_191]
      rw [hBlock_n]
      rw [hSeq_n]
      rw [show ((FF 193 d) |>.set 108 (d 10) |>.set 109 v1 |>.set 110 v2 |>.set 111 v3 |>.set 112 v4 |>.set 115 (d 0) |>.set 116 v5 |>.set 117 v6 |>.set 118 (d 10) |>.set 119 v7 |>.set 120 v8 |>.set 121 v9 |>.set 122 v11) = (FF 193 (gf ((FF 193 d) |>.set 108 (d 10) |>.set 109 v1 |>.set 110 v2 |>.set 111 v3 |>.set 112 v4 |>.set 115 (d 0) |>.set 116 v5 |>.set 117 v6 |>.set 118 (d 10) |>.set 119 v7 |>.set 120 v8 |>.set 121 v9 |>.set 122 v11))) from by kernel_rfl]
      exact (f23_r25_eq (d := gf ((FF 193 d) |>.set 108 (d 10) |>.set 109 v1 |>.set 110 v2 |>.set 111 v3 |>.set 112 v4 |>.set 115 (d 0) |>.set 116 v5 |>.set 117 v6 |>.set 118 (d 10) |>.set 119 v7 |>.set 120 v8 |>.set 121 v9 |>.set 122 v11)) call k ag_l5 sg_l5 h_l5 ag_l8 sg_l8 h_l8 ag_l24 sg_l24 h_l24).trans (by kernel_rfl)
  · rw [n23_192]
    rw [hSeq_e, hLoop_e, hBlock_hit]
    rw [hSeq_n]
    rw [show ((FF 193 d) |>.set 108 (d 10) |>.set 109 v1 |>.set 110 v2 |>.set 111 v3 |>.set 112 v4) = (FF 193 (gf ((FF 193 d) |>.set 108 (d 10) |>.set 109 v1 |>.set 110 v2 |>.set 111 v3 |>.set 112 v4))) from by kernel_rfl]
    exact (f23_r28_eq (d := gf ((FF 193 d) |>.set 108 (d 10) |>.set 109 v1 |>.set 110 v2 |>.set 111 v3 |>.set 112 v4)) call k ag_l5 sg_l5 h_l5 ag_l8 sg_l8 h_l8).trans (by kernel_rfl)
noncomputable def f23_l24 (call : Handle) (k : Nat) (sg_l5 : Value → Value → Value → GH → M (Value × GH)) (sg_l8 : Value → Value → Value → Value → GH → M (Value × GH)) : Nat → Value → Value → Value → Value → Value → Value → GH → M (Value × GH)
  | 0, _, _, _, _, _, _, _ => none
  | r + 1, x0, x3, x4, x5, x6, x10, H => f23_l24b call k sg_l5 sg_l8 (f23_l24 call k sg_l5 sg_l8 r) x0 x3 x4 x5 x6 x10 H
theorem f23_l24_eq (call : Handle) (k : Nat) (ag_l5 : GA → GH → M (Value × GH)) (sg_l5 : Value → Value → Value → GH → M (Value × GH)) (h_l5 : f23_l5_P ag_l5 sg_l5) (ag_l8 : GA → GH → M (Value × GH)) (sg_l8 : Value → Value → Value → Value → GH → M (Value × GH)) (h_l8 : f23_l8_P ag_l8 sg_l8) : ∀ (r : Nat), f23_l24_P (gLoop (gCode Try.prog call k (fAt Try.f23 [1,1,1,0,1,0,0,1,0,0,1,0,0,1,0,0,1,1,1,0,1,0,0])) (hBlock 6 (hSeq (gCode Try.prog call k (fAt Try.f23 [1,1,1,0,1,0,0,1,0,0,1,0,0,1,0,0,1,1,1,1])) (hBlock 3 (hSeq (gCode Try.prog call k (fAt Try.f23 [1,1,1,0,1,0,0,1,0,0,1,0,0,1,1])) (hLoop ag_l8 (hBlock 2 (hBlock 1 (hSeq (gCode Try.prog call k (fAt Try.f23 [1,1,1,0,1,0,0,1,1])) (hLoop ag_l5 (hBlock 0 (hSeq (gCode Try.prog call k (fAt Try.f23 [1,1,1,1])) (hFin Try.prog Try.f23)))))))))))) r) (f23_l24 call k sg_l5 sg_l8 r) := by
  intro r
  induction r with
  | zero => unfold f23_l24_P; intros; rfl
  | succ r ih => unfold f23_l24_P; intros; exact f23_l24b_eq call k ag_l5 sg_l5 h_l5 ag_l8 sg_l8 h_l8 _ _ ih
noncomputable def f23_r23 (call : Handle) (k : Nat) (sg_l5 : Value → Value → Value → GH → M (Value × GH)) (sg_l8 : Value → Value → Value → Value → GH → M (Value × GH)) (x0 x3 x4 x5 x6 : Value) (H : GH) : M (Value × GH) :=
  (f23_l24 call k (sg_l5) (sg_l8) k x0 x3 x4 x5 x6 (.int .i64 0) H)
theorem f23_r23_eq (call : Handle) (k : Nat) (ag_l5 : GA → GH → M (Value × GH)) (sg_l5 : Value → Value → Value → GH → M (Value × GH)) (h_l5 : f23_l5_P ag_l5 sg_l5) (ag_l8 : GA → GH → M (Value × GH)) (sg_l8 : Value → Value → Value → Value → GH → M (Value × GH)) (h_l8 : f23_l8_P ag_l8 sg_l8) : gCode Try.prog call k (fAt Try.f23 [1,1,1,0,1,0,0,1,0,0,1,0,0,1,0,0,1,1,1]) (FF 193 d) H (hBlock 3 (hSeq (gCode Try.prog call k (fAt Try.f23 [1,1,1,0,1,0,0,1,0,0,1,0,0,1,1])) (hLoop ag_l8 (hBlock 2 (hBlock 1 (hSeq (gCode Try.prog call k (fAt Try.f23 [1,1,1,0,1,0,0,1,1])) (hLoop ag_l5 (hBlock 0 (hSeq (gCode Try.prog call k (fAt Try.f23 [1,1,1,1])) (hFin Try.prog Try.f23)))))))))) = f23_r23 call k sg_l5 sg_l8 (d 0) (d 3) (d 4) (d 5) (d 6) H := by
  unfold f23_r23
  rw [n23_162]
  rw [n23_163]
  rw [n23_164]
  rw [s23_53]
  rw [hSeq_n]
  rw [n23_165]
  rw [n23_166]
  rw [show ((FF 193 d) |>.set 10 (.int .i64 0)) = (FF 193 (gf ((FF 193 d) |>.set 10 (.int .i64 0)))) from by kernel_rfl]
  exact (f23_l24_at (d := gf ((FF 193 d) |>.set 10 (.int .i64 0))) (f23_l24_eq call k ag_l5 sg_l5 h_l5 ag_l8 sg_l8 h_l8 k)).trans (by kernel_rfl)
noncomputable def f23_l14b (call : Handle) (k : Nat) (sg_l5 : Value → Value → Value → GH → M (Value × GH)) (sg_l8 : Value → Value → Value → Value → GH → M (Value × GH)) (sg_l14 : Value → Value → Value → Value → Value → Value → GH → M (Value × GH)) (x0 x3 x4 x5 x6 x7 : Value) (H : GH) : M (Value × GH) :=
  onV (oFieldAddr Try.prog 62 x6 3) fun v1 =>
  onV (gLoad Try.prog 60 v1 H) fun v2 =>
  onV (oLen Try.prog 60 v2) fun v3 =>
  onV ((oBin Try.prog .lss 3 x7 v3).filter closed) fun v4 =>
  onBool (asB v4)
  (onV (oFieldAddr Try.prog 62 x6 3) fun v5 =>
  onV (gLoad Try.prog 60 v5 H) fun v6 =>
  onV (oIndexAddr Try.prog 60 v6 x7) fun v7 =>
  onV (gLoad Try.prog 157 v7 H) fun v8 =>
  onH (gStore Try.prog 157 (.pointer (some ⟨H.n, 0, none⟩)) v8 (GH.push H (.row [(.int .u8 0), (.int .i64 0), (.bool false), (.int .u8 0)] 157 false))) fun H9 =>
  (f23_r17 call k (sg_l5) (sg_l8) (sg_l14) x0 x3 x4 x5 x6 x7 (.pointer (some ⟨H.n, 0, none⟩)) H9))
  ((f23_r23 call k (sg_l5) (sg_l8) x0 x3 x4 x5 x6 H))
theorem f23_l14b_eq (call : Handle) (k : Nat) (ag_l5 : GA → GH → M (Value × GH)) (sg_l5 : Value → Value → Value → GH → M (Value × GH)) (h_l5 : f23_l5_P ag_l5 sg_l5) (ag_l8 : GA → GH → M (Value × GH)) (sg_l8 : Value → Value → Value → Value → GH → M (Value × GH)) (h_l8 : f23_l8_P ag_l8 sg_l8) (ag_l14 : GA → GH → M (Value × GH)) (sg_l14 : Value → Value → Value → Value → Value → Value → GH → M (Value × GH)) (h_l14 : f23_l14_P ag_l14 sg_l14) : gCode Try.prog call k (fAt Try.f23 [1,1,1,0,1,0,0,1,0,0,1,0,0,1,0,0,1,1,0,1,0,0]) (FF 193 d) H (hLoop ag_l14 (hBlock 4 (hSeq (gCode Try.prog call k (fAt Try.f23 [1,1,1,0,1,0,0,1,0,0,1,0,0,1,0,0,1,1,1])) (hBlock 3 (hSeq (gCode Try.prog call k (fAt Try.f23 [1,1,1,0,1,0,0,1,0,0,1,0,0,1,1])) (hLoop ag_l8 (hBlock 2 (hBlock 1 (hSeq (gCode Try.prog call k (fAt Try.f23 [1,1,1,0,1,0,0,1,1])) (hLoop ag_l5 (hBlock 0 (hSeq (gCode Try.prog call k (fAt Try.f23 [1,1,1,1])) (hFin Try.prog Try.f23))))))))))))) = f23_l14b call k sg_l5 sg_l8 sg_l14 (d 0) (d 3) (d 4) (d 5) (d 6) (d 7) H := by
  unfold f23_l14b
  rw [n23_143]
  rw [n23_144]
  rw [n23_145]
  rw [s23_44]
  refine onV_c fun v1 => ?_
  refine onV_c fun v2 => ?_
  refine onV_c fun v3 => ?_
  refine onV_c fun v4 => ?_
  rw [hSeq_n]
  rw [n23_146]
  refine onBool_cc (by kernel_rfl) ?_ ?_
  · rw [n23_147]
    rw [hSeq_n]
    rw [n23_148]
    rw [n23_149]
    rw [n23_150]
    rw [n23_151]
    rw [s23_45]
    refine onV_c fun v5 => ?_
    refine onV_c fun v6 => ?_
    refine onV_c fun v7 => ?_
    refine onV_c fun v8 => ?_
    refine onH_c fun H9 => ?_
    rw [hSeq_n]
    rw [n23_152]
    rw [n23_153]
    rw [show ((FF 193 d) |>.set 59 (d 7) |>.set 60 v1 |>.set 61 v2 |>.set 62 v3 |>.set 63 v4 |>.set 66 v5 |>.set 67 v6 |>.set 68 (d 7) |>.set 69 v7 |>.set 70 v8 |>.set 8 (.pointer (some ⟨H.n, 0, none⟩))) = (FF 193 (gf ((FF 193 d) |>.set 59 (d 7) |>.set 60 v1 |>.set 61 v2 |>.set 62 v3 |>.set 63 v4 |>.set 66 v5 |>.set 67 v6 |>.set 68 (d 7) |>.set 69 v7 |>.set 70 v8 |>.set 8 (.pointer (some ⟨H.n, 0, none⟩))))) from by kernel_rfl]
    exact (f23_r17_eq (d := gf ((FF 193 d) |>.set 59 (d 7) |>.set 60 v1 |>.set 61 v2 |>.set 62 v3 |>.set 63 v4 |>.set 66 v5 |>.set 67 v6 |>.set 68 (d 7) |>.set 69 v7 |>.set 70 v8 |>.set 8 (.pointer (some ⟨H.n, 0, none⟩)))) call k ag_l5 sg_l5 h_l5 ag_l8 sg_l8 h_l8 ag_l14 sg_l14 h_l14).trans (by kernel_rfl)
  · rw [n23_154]
    rw [hSeq_e, hLoop_e, hBlock_hit]
    rw [hSeq_n]
    rw [show ((FF 193 d) |>.set 59 (d 7) |>.set 60 v1 |>.set 61 v2 |>.set 62 v3 |>.set 63 v4) = (FF 193 (gf ((FF 193 d) |>.set 59 (d 7) |>.set 60 v1 |>.set 61 v2 |>.set 62 v3 |>.set 63 v4))) from by kernel_rfl]
    exact (f23_r23_eq (d := gf ((FF 193 d) |>.set 59 (d 7) |>.set 60 v1 |>.set 61 v2 |>.set 62 v3 |>.set 63 v4)) call k ag_l5 sg_l5 h_l5 ag_l8 sg_l8 h_l8).trans (by kernel_rfl)
noncomputable def f23_l14 (call : Handle) (k : Nat) (sg_l5 : Value → Value → Value → GH → M (Value × GH)) (sg_l8 : Value → Value → Value → Value → GH → M (Value × GH)) : Nat → Value → Value → Value → Value → Value → Value → GH → M (Value × GH)
  | 0, _, _, _, _, _, _, _ => none
  | r + 1, x0, x3, x4, x5, x6, x7, H => f23_l14b call k sg_l5 sg_l8 (f23_l14 call k sg_l5 sg_l8 r) x0 x3 x4 x5 x6 x7 H
theorem f23_l14_eq (call : Handle) (k : Nat) (ag_l5 : GA → GH → M (Value × GH)) (sg_l5 : Value → Value → Value → GH → M (Value × GH)) (h_l5 : f23_l5_P ag_l5 sg_l5) (ag_l8 : GA → GH → M (Value × GH)) (sg_l8 : Value → Value → Value → Value → GH → M (Value × GH)) (h_l8 : f23_l8_P ag_l8 sg_l8) : ∀ (r : Nat), f23_l14_P (gLoop (gCode Try.prog call k (fAt Try.f23 [1,1,1,0,1,0,0,1,0,0,1,0,0,1,0,0,1,1,0,1,0,0])) (hBlock 4 (hSeq (gCode Try.prog call k (fAt Try.f23 [1,1,1,0,1,0,0,1,0,0,1,0,0,1,0,0,1,1,1])) (hBlock 3 (hSeq (gCode Try.prog call k (fAt Try.f23 [1,1,1,0,1,0,0,1,0,0,1,0,0,1,1])) (hLoop ag_l8 (hBlock 2 (hBlock 1 (hSeq (gCode Try.prog call k (fAt Try.f23 [1,1,1,0,1,0,0,1,1])) (hLoop ag_l5 (hBlock 0 (hSeq (gCode Try.prog call k (fAt Try.f23 [1,1,1,1])) (hFin Try.prog Try.f23)))))))))))) r) (f23_l14 call k sg_l5 sg_l8 r) := by
  intro r
  induction r with
  | zero => unfold f23_l14_P; intros; rfl
  | succ r ih => unfold f23_l14_P; intros; exact f23_l14b_eq call k ag_l5 sg_l5 h_l5 ag_l8 sg_l8 h_l8 _ _ ih
noncomputable def f23_g11_13 (call : Handle) (k : Nat) (sg_l5 : Value → Value → Value → GH → M (Value × GH)) (sg_l8 : Value → Value → Value → Value → GH → M (Value × GH)) (x53 : Value) (x0 x3 x4 x5 x6 : Value) (H : GH) : M (Value × GH) :=
 onBool (asB x53)
  (onV (oFieldAddr Try.prog 62 x6 1) fun v1 =>
  onV (gLoad Try.prog 4 v1 H) fun v2 =>
  onV ((oUn Try.prog .not v2).filter closed) fun v3 =>
  onBool (asB v3)
  (some [((.int .i64 1), H)])
  ((f23_l14 call k (sg_l5) (sg_l8) k x0 x3 x4 x5 x6 (.int .i64 0) H)))
  ((f23_l14 call k (sg_l5) (sg_l8) k x0 x3 x4 x5 x6 (.int .i64 0) H))
theorem f23_g11_13_true (call : Handle) (k : Nat) (ag_l5 : GA → GH → M (Value × GH)) (sg_l5 : Value → Value → Value → GH → M (Value × GH)) (h_l5 : f23_l5_P ag_l5 sg_l5) (ag_l8 : GA → GH → M (Value × GH)) (sg_l8 : Value → Value → Value → Value → GH → M (Value × GH)) (h_l8 : f23_l8_P ag_l8 sg_l8) : gOps Try.prog 0 call (opsAt (fAt Try.f23 [1,1,1,0,1,0,0,1,0,0,1,0,0,1,0,0,1,0,0])) ((opsAt (fAt Try.f23 [1,1,1,0,1,0,0,1,0,0,1,0,0,1,0,0,1,0,0])).drop 13) ((FF 193 d) |>.set 50 (.bool false) |>.set 53 (.bool true)) H ((hSeq (gCode Try.prog call k (fAt Try.f23 [1,1,1,0,1,0,0,1,0,0,1,0,0,1,0,0,1,0,1])) (hSeq (gCode Try.prog call k (fAt Try.f23 [1,1,1,0,1,0,0,1,0,0,1,0,0,1,0,0,1,1])) (hBlock 3 (hSeq (gCode Try.prog call k (fAt Try.f23 [1,1,1,0,1,0,0,1,0,0,1,0,0,1,1])) (hLoop ag_l8 (hBlock 2 (hBlock 1 (hSeq (gCode Try.prog call k (fAt Try.f23 [1,1,1,0,1,0,0,1,1])) (hLoop ag_l5 (hBlock 0 (hSeq (gCode Try.prog call k (fAt Try.f23 [1,1,1,1])) (hFin Try.prog Try.f23)))))))))))) .normal) =
  onV (oFieldAddr Try.prog 62 (d 6) 1) fun v1 =>
  onV (gLoad Try.prog 4 v1 H) fun v2 =>
  onV ((oUn Try.prog .not v2).filter closed) fun v3 =>
  onBool (asB v3)
  (some [((.int .i64 1), H)])
  ((f23_l14 call k (sg_l5) (sg_l8) k (d 0) (d 3) (d 4) (d 5) (d 6) (.int .i64 0) H)) := by
  rw [s23_33]
  refine onV_c fun v1 => ?_
  refine onV_c fun v2 => ?_
  refine onV_c fun v3 => ?_
  rw [hSeq_n]
  rw [n23_84]
  refine onBool_cc (by kernel_rfl) ?_ ?_
  · rw [n23_85]
    rw [n23_86]
    rw [s23_34]
    rw [hSeq_n]
    rw [n23_87]
    rw [hSeq_r, hBlock_r, hSeq_r, hLoop_r, hBlock_r, hBlock_r, hSeq_r, hLoop_r, hBlock_r, hSeq_r]
    kernel_rfl
  · rw [n23_117]
    rw [hSeq_n]
    rw [n23_118]
    rw [n23_119]
    rw [n23_120]
    rw [s23_35]
    rw [hSeq_n]
    rw [n23_121]
    rw [n23_122]
    rw [show ((FF 193 d) |>.set 50 (.bool false) |>.set 53 (.bool true) |>.set 54 v1 |>.set 55 v2 |>.set 56 v3 |>.set 57 v3 |>.set 58 v3 |>.set 7 (.int .i64 0)) = (FF 193 (gf ((FF 193 d) |>.set 50 (.bool false) |>.set 53 (.bool true) |>.set 54 v1 |>.set 55 v2 |>.set 56 v3 |>.set 57 v3 |>.set 58 v3 |>.set 7 (.int .i64 0)))) from by kernel_rfl]
    exact (f23_l14_at (d := gf ((FF 193 d) |>.set 50 (.bool false) |>.set 53 (.bool true) |>.set 54 v1 |>.set 55 v2 |>.set 56 v3 |>.set 57 v3 |>.set 58 v3 |>.set 7 (.int .i64 0))) (f23_l14_eq call k ag_l5 sg_l5 h_l5 ag_l8 sg_l8 h_l8 k)).trans (by kernel_rfl)
theorem f23_g11_13_false (call : Handle) (k : Nat) (ag_l5 : GA → GH → M (Value × GH)) (sg_l5 : Value → Value → Value → GH → M (Value × GH)) (h_l5 : f23_l5_P ag_l5 sg_l5) (ag_l8 : GA → GH → M (Value × GH)) (sg_l8 : Value → Value → Value → Value → GH → M (Value × GH)) (h_l8 : f23_l8_P ag_l8 sg_l8) : gOps Try.prog 0 call (opsAt (fAt Try.f23 [1,1,1,0,1,0,0,1,0,0,1,0,0,1,0,0,1,0,0])) ((opsAt (fAt Try.f23 [1,1,1,0,1,0,0,1,0,0,1,0,0,1,0,0,1,0,0])).drop 13) ((FF 193 d) |>.set 50 (.bool false) |>.set 53 (.bool false)) H ((hSeq (gCode Try.prog call k (fAt Try.f23 [1,1,1,0,1,0,0,1,0,0,1,0,0,1,0,0,1,0,1])) (hSeq (gCode Try.prog call k (fAt Try.f23 [1,1,1,0,1,0,0,1,0,0,1,0,0,1,0,0,1,1])) (hBlock 3 (hSeq (gCode Try.prog call k (fAt Try.f23 [1,1,1,0,1,0,0,1,0,0,1,0,0,1,1])) (hLoop ag_l8 (hBlock 2 (hBlock 1 (hSeq (gCode Try.prog call k (fAt Try.f23 [1,1,1,0,1,0,0,1,1])) (hLoop ag_l5 (hBlock 0 (hSeq (gCode Try.prog call k (fAt Try.f23 [1,1,1,1])) (hFin Try.prog Try.f23)))))))))))) .normal) =
  (f23_l14 call k (sg_l5) (sg_l8) k (d 0) (d 3) (d 4) (d 5) (d 6) (.int .i64 0) H) := by
  rw [s23_36]
  rw [hSeq_n]
  rw [n23_84]
  refine (onBool_ff (by kernel_rfl)).trans ?_
  rw [n23_117]
  rw [hSeq_n]
  rw [n23_118]
  rw [n23_119]
  rw [n23_120]
  rw [s23_37]
  rw [hSeq_n]
  rw [n23_121]
  rw [n23_122]
  rw [show ((FF 193 d) |>.set 50 (.bool false) |>.set 53 (.bool false) |>.set 54 undef |>.set 55 undef |>.set 56 undef |>.set 57 (.bool false) |>.set 58 (.bool false) |>.set 7 (.int .i64 0)) = (FF 193 (gf ((FF 193 d) |>.set 50 (.bool false) |>.set 53 (.bool false) |>.set 54 undef |>.set 55 undef |>.set 56 undef |>.set 57 (.bool false) |>.set 58 (.bool false) |>.set 7 (.int .i64 0)))) from by kernel_rfl]
  exact (f23_l14_at (d := gf ((FF 193 d) |>.set 50 (.bool false) |>.set 53 (.bool false) |>.set 54 undef |>.set 55 undef |>.set 56 undef |>.set 57 (.bool false) |>.set 58 (.bool false) |>.set 7 (.int .i64 0))) (f23_l14_eq call k ag_l5 sg_l5 h_l5 ag_l8 sg_l8 h_l8 k)).trans (by kernel_rfl)
theorem f23_g11_13_eq (call : Handle) (k : Nat) (ag_l5 : GA → GH → M (Value × GH)) (sg_l5 : Value → Value → Value → GH → M (Value × GH)) (h_l5 : f23_l5_P ag_l5 sg_l5) (ag_l8 : GA → GH → M (Value × GH)) (sg_l8 : Value → Value → Value → Value → GH → M (Value × GH)) (h_l8 : f23_l8_P ag_l8 sg_l8) : onGrd true xg (gOps Try.prog 0 call (opsAt (fAt Try.f23 [1,1,1,0,1,0,0,1,0,0,1,0,0,1,0,0,1,0,0])) ((opsAt (fAt Try.f23 [1,1,1,0,1,0,0,1,0,0,1,0,0,1,0,0,1,0,0])).drop 13) ((FF 193 d) |>.set 50 (.bool false) |>.set 53 xg) H ((hSeq (gCode Try.prog call k (fAt Try.f23 [1,1,1,0,1,0,0,1,0,0,1,0,0,1,0,0,1,0,1])) (hSeq (gCode Try.prog call k (fAt Try.f23 [1,1,1,0,1,0,0,1,0,0,1,0,0,1,0,0,1,1])) (hBlock 3 (hSeq (gCode Try.prog call k (fAt Try.f23 [1,1,1,0,1,0,0,1,0,0,1,0,0,1,1])) (hLoop ag_l8 (hBlock 2 (hBlock 1 (hSeq (gCode Try.prog call k (fAt Try.f23 [1,1,1,0,1,0,0,1,1])) (hLoop ag_l5 (hBlock 0 (hSeq (gCode Try.prog call k (fAt Try.f23 [1,1,1,1])) (hFin Try.prog Try.f23)))))))))))) .normal)) =
  f23_g11_13 call k sg_l5 sg_l8 xg (d 0) (d 3) (d 4) (d 5) (d 6) H := by
  cases xg with
  | bool b => cases b with
    | true => exact onGrd_b.trans (f23_g11_13_true call k ag_l5 sg_l5 h_l5 ag_l8 sg_l8 h_l8)
    | false => exact onGrd_b.trans (f23_g11_13_false call k ag_l5 sg_l5 h_l5 ag_l8 sg_l8 h_l8)
  | _ => kernel_rfl
noncomputable def f23_g11_10 (call : Handle) (k : Nat) (sg_l5 : Value → Value → Value → GH → M (Value × GH)) (sg_l8 : Value → Value → Value → Value → GH → M (Value × GH)) (x50 : Value) (x0 x3 x4 x5 x6 : Value) (H : GH) : M (Value × GH) :=
 onBool (asB x50)
  (some [((.int .i64 1), H)])
  (onV ((oBin Try.prog .eql 3 x5 (.int .i64 0)).filter closed) fun v1 =>
  (f23_g11_13 call k (sg_l5) (sg_l8) v1 x0 x3 x4 x5 x6 H))
theorem f23_g11_10_true (call : Handle) (k : Nat) (ag_l5 : GA → GH → M (Value × GH)) (sg_l5 : Value → Value → Value → GH → M (Value × GH)) (h_l5 : f23_l5_P ag_l5 sg_l5) (ag_l8 : GA → GH → M (Value × GH)) (sg_l8 : Value → Value → Value → Value → GH → M (Value × GH)) (h_l8 : f23_l8_P ag_l8 sg_l8) : gOps Try.prog 0 call (opsAt (fAt Try.f23 [1,1,1,0,1,0,0,1,0,0,1,0,0,1,0,0,1,0,0])) ((opsAt (fAt Try.f23 [1,1,1,0,1,0,0,1,0,0,1,0,0,1,0,0,1,0,0])).drop 10) ((FF 193 d) |>.set 50 (.bool true)) H ((hSeq (gCode Try.prog call k (fAt Try.f23 [1,1,1,0,1,0,0,1,0,0,1,0,0,1,0,0,1,0,1])) (hSeq (gCode Try.prog call k (fAt Try.f23 [1,1,1,0,1,0,0,1,0,0,1,0,0,1,0,0,1,1])) (hBlock 3 (hSeq (gCode Try.prog call k (fAt Try.f23 [1,1,1,0,1,0,0,1,0,0,1,0,0,1,1])) (hLoop ag_l8 (hBlock 2 (hBlock 1 (hSeq (gCode Try.prog call k (fAt Try.f23 [1,1,1,0,1,0,0,1,1])) (hLoop ag_l5 (hBlock 0 (hSeq (gCode Try.prog call k (fAt Try.f23 [1,1,1,1])) (hFin Try.prog Try.f23)))))))))))) .normal) =
  some [((.int .i64 1), H)] := by
  rw [s23_27]
  rw [hSeq_n]
  rw [n23_84]
  refine (onBool_tt (by kernel_rfl)).trans ?_
  rw [n23_85]
  rw [n23_86]
  rw [s23_28]
  rw [hSeq_n]
  rw [n23_87]
  rw [hSeq_r, hBlock_r, hSeq_r, hLoop_r, hBlock_r, hBlock_r, hSeq_r, hLoop_r, hBlock_r, hSeq_r]
  kernel_rfl
theorem f23_g11_10_false (call : Handle) (k : Nat) (ag_l5 : GA → GH → M (Value × GH)) (sg_l5 : Value → Value → Value → GH → M (Value × GH)) (h_l5 : f23_l5_P ag_l5 sg_l5) (ag_l8 : GA → GH → M (Value × GH)) (sg_l8 : Value → Value → Value → Value → GH → M (Value × GH)) (h_l8 : f23_l8_P ag_l8 sg_l8) : gOps Try.prog 0 call (opsAt (fAt Try.f23 [1,1,1,0,1,0,0,1,0,0,1,0,0,1,0,0,1,0,0])) ((opsAt (fAt Try.f23 [1,1,1,0,1,0,0,1,0,0,1,0,0,1,0,0,1,0,0])).drop 10) ((FF 193 d) |>.set 50 (.bool false)) H ((hSeq (gCode Try.prog call k (fAt Try.f23 [1,1,1,0,1,0,0,1,0,0,1,0,0,1,0,0,1,0,1])) (hSeq (gCode Try.prog call k (fAt Try.f23 [1,1,1,0,1,0,0,1,0,0,1,0,0,1,0,0,1,1])) (hBlock 3 (hSeq (gCode Try.prog call k (fAt Try.f23 [1,1,1,0,1,0,0,1,0,0,1,0,0,1,1])) (hLoop ag_l8 (hBlock 2 (hBlock 1 (hSeq (gCode Try.prog call k (fAt Try.f23 [1,1,1,0,1,0,0,1,1])) (hLoop ag_l5 (hBlock 0 (hSeq (gCode Try.prog call k (fAt Try.f23 [1,1,1,1])) (hFin Try.prog Try.f23)))))))))))) .normal) =
  onV ((oBin Try.prog .eql 3 (d 5) (.int .i64 0)).filter closed) fun v1 =>
  (f23_g11_13 call k (sg_l5) (sg_l8) v1 (d 0) (d 3) (d 4) (d 5) (d 6) H) := by
  rw [gOps_split 10 3, s23_29]
  refine onV_c fun v1 => ?_
  rw [show ((FF 193 d) |>.set 50 (.bool false) |>.set 51 (d 5) |>.set 52 v1 |>.set 53 v1) = ((FF 193 (gf ((FF 193 d) |>.set 50 (.bool false) |>.set 51 (d 5) |>.set 52 v1 |>.set 53 v1))) |>.set 50 (.bool false) |>.set 53 v1) from by kernel_rfl]
  exact (f23_g11_13_eq (d := gf ((FF 193 d) |>.set 50 (.bool false) |>.set 51 (d 5) |>.set 52 v1 |>.set 53 v1)) call k ag_l5 sg_l5 h_l5 ag_l8 sg_l8 h_l8).trans (by kernel_rfl)
theorem f23_g11_10_eq (call : Handle) (k : Nat) (ag_l5 : GA → GH → M (Value × GH)) (sg_l5 : Value → Value → Value → GH → M (Value × GH)) (h_l5 : f23_l5_P ag_l5 sg_l5) (ag_l8 : GA → GH → M (Value × GH)) (sg_l8 : Value → Value → Value → Value → GH → M (Value × GH)) (h_l8 : f23_l8_P ag_l8 sg_l8) : onGrd true xg (gOps Try.prog 0 call (opsAt (fAt Try.f23 [1,1,1,0,1,0,0,1,0,0,1,0,0,1,0,0,1,0,0])) ((opsAt (fAt Try.f23 [1,1,1,0,1,0,0,1,0,0,1,0,0,1,0,0,1,0,0])).drop 10) ((FF 193 d) |>.set 50 xg) H ((hSeq (gCode Try.prog call k (fAt Try.f23 [1,1,1,0,1,0,0,1,0,0,1,0,0,1,0,0,1,0,1])) (hSeq (gCode Try.prog call k (fAt Try.f23 [1,1,1,0,1,0,0,1,0,0,1,0,0,1,0,0,1,1])) (hBlock 3 (hSeq (gCode Try.prog call k (fAt Try.f23 [1,1,1,0,1,0,0,1,0,0,1,0,0,1,1])) (hLoop ag_l8 (hBlock 2 (hBlock 1 (hSeq (gCode Try.prog call k (fAt Try.f23 [1,1,1,0,1,0,0,1,1])) (hLoop ag_l5 (hBlock 0 (hSeq (gCode Try.prog call k (fAt Try.f23 [1,1,1,1])) (hFin Try.prog Try.f23)))))))))))) .normal)) =
  f23_g11_10 call k sg_l5 sg_l8 xg (d 0) (d 3) (d 4) (d 5) (d 6) H := by
  cases xg with
  | bool b => cases b with
    | true => exact onGrd_b.trans (f23_g11_10_true call k ag_l5 sg_l5 h_l5 ag_l8 sg_l8 h_l8)
    | false => exact onGrd_b.trans (f23_g11_10_false call k ag_l5 sg_l5 h_l5 ag_l8 sg_l8 h_l8)
  | _ => kernel_rfl
noncomputable def f23_g11_4 (call : Handle) (k : Nat) (sg_l5 : Value → Value → Value → GH → M (Value × GH)) (sg_l8 : Value → Value → Value → Value → GH → M (Value × GH)) (x44 : Value) (x0 x3 x4 x5 x6 : Value) (H : GH) : M (Value × GH) :=
 onBool (asB x44)
  (some [((.int .i64 1), H)])
  (onV (oFieldAddr Try.prog 62 x6 2) fun v1 =>
  onV (gLoad Try.prog 26 v1 H) fun v2 =>
  onV (oLen Try.prog 26 v2) fun v3 =>
  onV ((oBin Try.prog .gtr 3 v3 (.int .i64 4)).filter closed) fun v4 =>
  (f23_g11_10 call k (sg_l5) (sg_l8) v4 x0 x3 x4 x5 x6 H))
theorem f23_g11_4_true (call : Handle) (k : Nat) (ag_l5 : GA → GH → M (Value × GH)) (sg_l5 : Value → Value → Value → GH → M (Value × GH)) (h_l5 : f23_l5_P ag_l5 sg_l5) (ag_l8 : GA → GH → M (Value × GH)) (sg_l8 : Value → Value → Value → Value → GH → M (Value × GH)) (h_l8 : f23_l8_P ag_l8 sg_l8) : gOps Try.prog 0 call (opsAt (fAt Try.f23 [1,1,1,0,1,0,0,1,0,0,1,0,0,1,0,0,1,0,0])) ((opsAt (fAt Try.f23 [1,1,1,0,1,0,0,1,0,0,1,0,0,1,0,0,1,0,0])).drop 4) ((FF 193 d) |>.set 44 (.bool true)) H ((hSeq (gCode Try.prog call k (fAt Try.f23 [1,1,1,0,1,0,0,1,0,0,1,0,0,1,0,0,1,0,1])) (hSeq (gCode Try.prog call k (fAt Try.f23 [1,1,1,0,1,0,0,1,0,0,1,0,0,1,0,0,1,1])) (hBlock 3 (hSeq (gCode Try.prog call k (fAt Try.f23 [1,1,1,0,1,0,0,1,0,0,1,0,0,1,1])) (hLoop ag_l8 (hBlock 2 (hBlock 1 (hSeq (gCode Try.prog call k (fAt Try.f23 [1,1,1,0,1,0,0,1,1])) (hLoop ag_l5 (hBlock 0 (hSeq (gCode Try.prog call k (fAt Try.f23 [1,1,1,1])) (hFin Try.prog Try.f23)))))))))))) .normal) =
  some [((.int .i64 1), H)] := by
  rw [s23_21]
  rw [hSeq_n]
  rw [n23_84]
  refine (onBool_tt (by kernel_rfl)).trans ?_
  rw [n23_85]
  rw [n23_86]
  rw [s23_22]
  rw [hSeq_n]
  rw [n23_87]
  rw [hSeq_r, hBlock_r, hSeq_r, hLoop_r, hBlock_r, hBlock_r, hSeq_r, hLoop_r, hBlock_r, hSeq_r]
  kernel_rfl
theorem f23_g11_4_false (call : Handle) (k : Nat) (ag_l5 : GA → GH → M (Value × GH)) (sg_l5 : Value → Value → Value → GH → M (Value × GH)) (h_l5 : f23_l5_P ag_l5 sg_l5) (ag_l8 : GA → GH → M (Value × GH)) (sg_l8 : Value → Value → Value → Value → GH → M (Value × GH)) (h_l8 : f23_l8_P ag_l8 sg_l8) : gOps Try.prog 0 call (opsAt (fAt Try.f23 [1,1,1,0,1,0,0,1,0,0,1,0,0,1,0,0,1,0,0])) ((opsAt (fAt Try.f23 [1,1,1,0,1,0,0,1,0,0,1,0,0,1,0,0,1,0,0])).drop 4) ((FF 193 d) |>.set 44 (.bool false)) H ((hSeq (gCode Try.prog call k (fAt Try.f23 [1,1,1,0,1,0,0,1,0,0,1,0,0,1,0,0,1,0,1])) (hSeq (gCode Try.prog call k (fAt Try.f23 [1,1,1,0,1,0,0,1,0,0,1,0,0,1,0,0,1,1])) (hBlock 3 (hSeq (gCode Try.prog call k (fAt Try.f23 [1,1,1,0,1,0,0,1,0,0,1,0,0,1,1])) (hLoop ag_l8 (hBlock 2 (hBlock 1 (hSeq (gCode Try.prog call k (fAt Try.f23 [1,1,1,0,1,0,0,1,1])) (hLoop ag_l5 (hBlock 0 (hSeq (gCode Try.prog call k (fAt Try.f23 [1,1,1,1])) (hFin Try.prog Try.f23)))))))))))) .normal) =
  onV (oFieldAddr Try.prog 62 (d 6) 2) fun v1 =>
  onV (gLoad Try.prog 26 v1 H) fun v2 =>
  onV (oLen Try.prog 26 v2) fun v3 =>
  onV ((oBin Try.prog .gtr 3 v3 (.int .i64 4)).filter closed) fun v4 =>
  (f23_g11_10 call k (sg_l5) (sg_l8) v4 (d 0) (d 3) (d 4) (d 5) (d 6) H) := by
  rw [gOps_split 4 6, s23_23]
  refine onV_c fun v1 => ?_
  refine onV_c fun v2 => ?_
  refine onV_c fun v3 => ?_
  refine onV_c fun v4 => ?_
  rw [show ((FF 193 d) |>.set 44 (.bool false) |>.set 45 v1 |>.set 46 v2 |>.set 47 v3 |>.set 48 v4 |>.set 49 v4 |>.set 50 v4) = ((FF 193 (gf ((FF 193 d) |>.set 44 (.bool false) |>.set 45 v1 |>.set 46 v2 |>.set 47 v3 |>.set 48 v4 |>.set 49 v4 |>.set 50 v4))) |>.set 50 v4) from by kernel_rfl]
  exact (f23_g11_10_eq (d := gf ((FF 193 d) |>.set 44 (.bool false) |>.set 45 v1 |>.set 46 v2 |>.set 47 v3 |>.set 48 v4 |>.set 49 v4 |>.set 50 v4)) call k ag_l5 sg_l5 h_l5 ag_l8 sg_l8 h_l8).trans (by kernel_rfl)
theorem f23_g11_4_eq (call : Handle) (k : Nat) (ag_l5 : GA → GH → M (Value × GH)) (sg_l5 : Value → Value → Value → GH → M (Value × GH)) (h_l5 : f23_l5_P ag_l5 sg_l5) (ag_l8 : GA → GH → M (Value × GH)) (sg_l8 : Value → Value → Value → Value → GH → M (Value × GH)) (h_l8 : f23_l8_P ag_l8 sg_l8) : onGrd true xg (gOps Try.prog 0 call (opsAt (fAt Try.f23 [1,1,1,0,1,0,0,1,0,0,1,0,0,1,0,0,1,0,0])) ((opsAt (fAt Try.f23 [1,1,1,0,1,0,0,1,0,0,1,0,0,1,0,0,1,0,0])).drop 4) ((FF 193 d) |>.set 44 xg) H ((hSeq (gCode Try.prog call k (fAt Try.f23 [1,1,1,0,1,0,0,1,0,0,1,0,0,1,0,0,1,0,1])) (hSeq (gCode Try.prog call k (fAt Try.f23 [1,1,1,0,1,0,0,1,0,0,1,0,0,1,0,0,1,1])) (hBlock 3 (hSeq (gCode Try.prog call k (fAt Try.f23 [1,1,1,0,1,0,0,1,0,0,1,0,0,1,1])) (hLoop ag_l8 (hBlock 2 (hBlock 1 (hSeq (gCode Try.prog call k (fAt Try.f23 [1,1,1,0,1,0,0,1,1])) (hLoop ag_l5 (hBlock 0 (hSeq (gCode Try.prog call k (fAt Try.f23 [1,1,1,1])) (hFin Try.prog Try.f23)))))))))))) .normal)) =
  f23_g11_4 call k sg_l5 sg_l8 xg (d 0) (d 3) (d 4) (d 5) (d 6) H := by
  cases xg with
  | bool b => cases b with
    | true => exact onGrd_b.trans (f23_g11_4_true call k ag_l5 sg_l5 h_l5 ag_l8 sg_l8 h_l8)
    | false => exact onGrd_b.trans (f23_g11_4_false call k ag_l5 sg_l5 h_l5 ag_l8 sg_l8 h_l8)
  | _ => kernel_rfl
noncomputable def f23_r11 (call : Handle) (k : Nat) (sg_l5 : Value → Value → Value → GH → M (Value × GH)) (sg_l8 : Value → Value → Value → Value → GH → M (Value × GH)) (x0 x3 x4 x5 x6 : Value) (H : GH) : M (Value × GH) :=
  onV (oFieldAddr Try.prog 62 x6 0) fun v1 =>
  onV (gLoad Try.prog 33 v1 H) fun v2 =>
  onV ((oBin Try.prog .gtr 33 v2 (.int .u8 1)).filter closed) fun v3 =>
  (f23_g11_4 call k (sg_l5) (sg_l8) v3 x0 x3 x4 x5 x6 H)
theorem f23_r11_eq (call : Handle) (k : Nat) (ag_l5 : GA → GH → M (Value × GH)) (sg_l5 : Value → Value → Value → GH → M (Value × GH)) (h_l5 : f23_l5_P ag_l5 sg_l5) (ag_l8 : GA → GH → M (Value × GH)) (sg_l8 : Value → Value → Value → Value → GH → M (Value × GH)) (h_l8 : f23_l8_P ag_l8 sg_l8) : gCode Try.prog call k (fAt Try.f23 [1,1,1,0,1,0,0,1,0,0,1,0,0,1,0,0,1,0,0]) (FF 193 d) H (hSeq (gCode Try.prog call k (fAt Try.f23 [1,1,1,0,1,0,0,1,0,0,1,0,0,1,0,0,1,0,1])) (hSeq (gCode Try.prog call k (fAt Try.f23 [1,1,1,0,1,0,0,1,0,0,1,0,0,1,0,0,1,1])) (hBlock 3 (hSeq (gCode Try.prog call k (fAt Try.f23 [1,1,1,0,1,0,0,1,0,0,1,0,0,1,1])) (hLoop ag_l8 (hBlock 2 (hBlock 1 (hSeq (gCode Try.prog call k (fAt Try.f23 [1,1,1,0,1,0,0,1,1])) (hLoop ag_l5 (hBlock 0 (hSeq (gCode Try.prog call k (fAt Try.f23 [1,1,1,1])) (hFin Try.prog Try.f23)))))))))))) = f23_r11 call k sg_l5 sg_l8 (d 0) (d 3) (d 4) (d 5) (d 6) H := by
  unfold f23_r11
  rw [n23_59]
  rw [gOps_split 0 4, s23_13]
  refine onV_c fun v1 => ?_
  refine onV_c fun v2 => ?_
  refine onV_c fun v3 => ?_
  rw [show ((FF 193 d) |>.set 41 v1 |>.set 42 v2 |>.set 43 v3 |>.set 44 v3) = ((FF 193 (gf ((FF 193 d) |>.set 41 v1 |>.set 42 v2 |>.set 43 v3 |>.set 44 v3))) |>.set 44 v3) from by kernel_rfl]
  exact (f23_g11_4_eq (d := gf ((FF 193 d) |>.set 41 v1 |>.set 42 v2 |>.set 43 v3 |>.set 44 v3)) call k ag_l5 sg_l5 h_l5 ag_l8 sg_l8 h_l8).trans (by kernel_rfl)
noncomputable def f23_r10 (call : Handle) (k : Nat) (sg_l5 : Value → Value → Value → GH → M (Value × GH)) (sg_l8 : Value → Value → Value → Value → GH → M (Value × GH)) (x0 x3 x4 x5 : Value) (H : GH) : M (Value × GH) :=
  onV (oIndexAddr Try.prog 58 x0 x4) fun v1 =>
  onV (gLoad Try.prog 59 v1 H) fun v2 =>
  onV (oIndexAddr Try.prog 59 v2 x5) fun v3 =>
  onV (gLoad Try.prog 62 v3 H) fun v4 =>
  onH (gStore Try.prog 62 (.pointer (some ⟨H.n, 0, none⟩)) v4 (GH.push H (.row [(.int .u8 0), (.bool false), (.slice none 0 0), (.slice none 0 0)] 62 false))) fun H5 =>
  (f23_r11 call k (sg_l5) (sg_l8) x0 x3 x4 x5 (.pointer (some ⟨H.n, 0, none⟩)) H5)
theorem f23_r10_eq (call : Handle) (k : Nat) (ag_l5 : GA → GH → M (Value × GH)) (sg_l5 : Value → Value → Value → GH → M (Value × GH)) (h_l5 : f23_l5_P ag_l5 sg_l5) (ag_l8 : GA → GH → M (Value × GH)) (sg_l8 : Value → Value → Value → Value → GH → M (Value × GH)) (h_l8 : f23_l8_P ag_l8 sg_l8) : gCode Try.prog call k (fAt Try.f23 [1,1,1,0,1,0,0,1,0,0,1,0,0,1,0,0,0]) (FF 193 d) H (hSeq (gCode Try.prog call k (fAt Try.f23 [1,1,1,0,1,0,0,1,0,0,1,0,0,1,0,0,1])) (hBlock 3 (hSeq (gCode Try.prog call k (fAt Try.f23 [1,1,1,0,1,0,0,1,0,0,1,0,0,1,1])) (hLoop ag_l8 (hBlock 2 (hBlock 1 (hSeq (gCode Try.prog call k (fAt Try.f23 [1,1,1,0,1,0,0,1,1])) (hLoop ag_l5 (hBlock 0 (hSeq (gCode Try.prog call k (fAt Try.f23 [1,1,1,1])) (hFin Try.prog Try.f23))))))))))) = f23_r10 call k sg_l5 sg_l8 (d 0) (d 3) (d 4) (d 5) H := by
  unfold f23_r10
  rw [n23_44]
  rw [s23_10]
  refine onV_c fun v1 => ?_
  refine onV_c fun v2 => ?_
  refine onV_c fun v3 => ?_
  refine onV_c fun v4 => ?_
  refine onH_c fun H5 => ?_
  rw [hSeq_n]
  rw [n23_45]
  rw [n23_46]
  rw [show ((FF 193 d) |>.set 34 (d 0) |>.set 35 (d 4) |>.set 36 v1 |>.set 37 v2 |>.set 38 (d 5) |>.set 39 v3 |>.set 40 v4 |>.set 6 (.pointer (some ⟨H.n, 0, none⟩))) = (FF 193 (gf ((FF 193 d) |>.set 34 (d 0) |>.set 35 (d 4) |>.set 36 v1 |>.set 37 v2 |>.set 38 (d 5) |>.set 39 v3 |>.set 40 v4 |>.set 6 (.pointer (some ⟨H.n, 0, none⟩))))) from by kernel_rfl]
  exact (f23_r11_eq (d := gf ((FF 193 d) |>.set 34 (d 0) |>.set 35 (d 4) |>.set 36 v1 |>.set 37 v2 |>.set 38 (d 5) |>.set 39 v3 |>.set 40 v4 |>.set 6 (.pointer (some ⟨H.n, 0, none⟩)))) call k ag_l5 sg_l5 h_l5 ag_l8 sg_l8 h_l8).trans (by kernel_rfl)
noncomputable def f23_l8b (call : Handle) (k : Nat) (sg_l5 : Value → Value → Value → GH → M (Value × GH)) (sg_l8 : Value → Value → Value → Value → GH → M (Value × GH)) (x0 x3 x4 x5 : Value) (H : GH) : M (Value × GH) :=
  onV (oIndexAddr Try.prog 58 x0 x4) fun v1 =>
  onV (gLoad Try.prog 59 v1 H) fun v2 =>
  onV (oLen Try.prog 59 v2) fun v3 =>
  onV ((oBin Try.prog .lss 3 x5 v3).filter closed) fun v4 =>
  onBool (asB v4)
  ((f23_r10 call k (sg_l5) (sg_l8) x0 x3 x4 x5 H))
  (onV ((oBin Try.prog .add 3 x4 (.int .i64 1)).filter closed) fun v5 =>
  (sg_l5 x0 x3 v5 H))
theorem f23_l8b_eq (call : Handle) (k : Nat) (ag_l5 : GA → GH → M (Value × GH)) (sg_l5 : Value → Value → Value → GH → M (Value × GH)) (h_l5 : f23_l5_P ag_l5 sg_l5) (ag_l8 : GA → GH → M (Value × GH)) (sg_l8 : Value → Value → Value → Value → GH → M (Value × GH)) (h_l8 : f23_l8_P ag_l8 sg_l8) : gCode Try.prog call k (fAt Try.f23 [1,1,1,0,1,0,0,1,0,0,1,0,0]) (FF 193 d) H (hLoop ag_l8 (hBlock 2 (hBlock 1 (hSeq (gCode Try.prog call k (fAt Try.f23 [1,1,1,0,1,0,0,1,1])) (hLoop ag_l5 (hBlock 0 (hSeq (gCode Try.prog call k (fAt Try.f23 [1,1,1,1])) (hFin Try.prog Try.f23)))))))) = f23_l8b call k sg_l5 sg_l8 (d 0) (d 3) (d 4) (d 5) H := by
  unfold f23_l8b
  rw [n23_29]
  rw [n23_30]
  rw [n23_31]
  rw [s23_7]
  refine onV_c fun v1 => ?_
  refine onV_c fun v2 => ?_
  refine onV_c fun v3 => ?_
  refine onV_c fun v4 => ?_
  rw [hSeq_n]
  rw [n23_32]
  refine onBool_cc (by kernel_rfl) ?_ ?_
  · rw [n23_33]
    rw [hSeq_n]
    rw [n23_34]
    rw [n23_35]
    rw [n23_36]
    rw [show ((FF 193 d) |>.set 25 (d 5) |>.set 26 (d 0) |>.set 27 (d 4) |>.set 28 v1 |>.set 29 v2 |>.set 30 v3 |>.set 31 v4) = (FF 193 (gf ((FF 193 d) |>.set 25 (d 5) |>.set 26 (d 0) |>.set 27 (d 4) |>.set 28 v1 |>.set 29 v2 |>.set 30 v3 |>.set 31 v4))) from by kernel_rfl]
    exact (f23_r10_eq (d := gf ((FF 193 d) |>.set 25 (d 5) |>.set 26 (d 0) |>.set 27 (d 4) |>.set 28 v1 |>.set 29 v2 |>.set 30 v3 |>.set 31 v4)) call k ag_l5 sg_l5 h_l5 ag_l8 sg_l8 h_l8).trans (by kernel_rfl)
  · rw [n23_37]
    rw [hSeq_e, hLoop_e, hBlock_hit]
    rw [hBlock_n]
    rw [hSeq_n]
    rw [n23_38]
    rw [s23_8]
    refine onV_c fun v5 => ?_
    rw [hLoop_n]
    rw [show ((FF 193 d) |>.set 25 (d 5) |>.set 26 (d 0) |>.set 27 (d 4) |>.set 28 v1 |>.set 29 v2 |>.set 30 v3 |>.set 31 v4 |>.set 23 (d 4) |>.set 24 v5 |>.set 4 v5) = (FF 193 (gf ((FF 193 d) |>.set 25 (d 5) |>.set 26 (d 0) |>.set 27 (d 4) |>.set 28 v1 |>.set 29 v2 |>.set 30 v3 |>.set 31 v4 |>.set 23 (d 4) |>.set 24 v5 |>.set 4 v5))) from by kernel_rfl]
    exact (f23_l5_at (d := gf ((FF 193 d) |>.set 25 (d 5) |>.set 26 (d 0) |>.set 27 (d 4) |>.set 28 v1 |>.set 29 v2 |>.set 30 v3 |>.set 31 v4 |>.set 23 (d 4) |>.set 24 v5 |>.set 4 v5)) h_l5).trans (by kernel_rfl)
noncomputable def f23_l8 (call : Handle) (k : Nat) (sg_l5 : Value → Value → Value → GH → M (Value × GH)) : Nat → Value → Value → Value → Value → GH → M (Value × GH)
  | 0, _, _, _, _, _ => none
  | r + 1, x0, x3, x4, x5, H => f23_l8b call k sg_l5 (f23_l8 call k sg_l5 r) x0 x3 x4 x5 H
theorem f23_l8_eq (call : Handle) (k : Nat) (ag_l5 : GA → GH → M (Value × GH)) (sg_l5 : Value → Value → Value → GH → M (Value × GH)) (h_l5 : f23_l5_P ag_l5 sg_l5) : ∀ (r : Nat), f23_l8_P (gLoop (gCode Try.prog call k (fAt Try.f23 [1,1,1,0,1,0,0,1,0,0,1,0,0])) (hBlock 2 (hBlock 1 (hSeq (gCode Try.prog call k (fAt Try.f23 [1,1,1,0,1,0,0,1,1])) (hLoop ag_l5 (hBlock 0 (hSeq (gCode Try.prog call k (fAt Try.f23 [1,1,1,1])) (hFin Try.prog Try.f23))))))) r) (f23_l8 call k sg_l5 r) := by
  intro r
  induction r with
  | zero => unfold f23_l8_P; intros; rfl
  | succ r ih => unfold f23_l8_P; intros; exact f23_l8b_eq call k ag_l5 sg_l5 h_l5 _ _ ih
noncomputable def f23_l5b (call : Handle) (k : Nat) (sg_l5 : Value → Value → Value → GH → M (Value × GH)) (x0 x3 x4 : Value) (H : GH) : M (Value × GH) :=
  onV ((oBin Try.prog .lss 3 x4 (.int .i64 6)).filter closed) fun v1 =>
  onBool (asB v1)
  ((f23_l8 call k (sg_l5) k x0 x3 x4 (.int .i64 0) H))
  ((f23_r29 call k x0 x3 H))
theorem f23_l5b_eq (call : Handle) (k : Nat) (ag_l5 : GA → GH → M (Value × GH)) (sg_l5 : Value → Value → Value → GH → M (Value × GH)) (h_l5 : f23_l5_P ag_l5 sg_l5) : gCode Try.prog call k (fAt Try.f23 [1,1,1,0,1,0,0]) (FF 193 d) H (hLoop ag_l5 (hBlock 0 (hSeq (gCode Try.prog call k (fAt Try.f23 [1,1,1,1])) (hFin Try.prog Try.f23)))) = f23_l5b call k sg_l5 (d 0) (d 3) (d 4) H := by
  unfold f23_l5b
  rw [n23_17]
  rw [n23_18]
  rw [n23_19]
  rw [s23_5]
  refine onV_c fun v1 => ?_
  rw [hSeq_n]
  rw [n23_20]
  refine onBool_cc (by kernel_rfl) ?_ ?_
  · rw [n23_21]
    rw [hSeq_n]
    rw [n23_22]
    rw [n23_23]
    rw [n23_24]
    rw [n23_25]
    rw [s23_6]
    rw [hSeq_n]
    rw [n23_26]
    rw [n23_27]
    rw [show ((FF 193 d) |>.set 21 (d 4) |>.set 22 v1 |>.set 5 (.int .i64 0)) = (FF 193 (gf ((FF 193 d) |>.set 21 (d 4) |>.set 22 v1 |>.set 5 (.int .i64 0)))) from by kernel_rfl]
    exact (f23_l8_at (d := gf ((FF 193 d) |>.set 21 (d 4) |>.set 22 v1 |>.set 5 (.int .i64 0))) (f23_l8_eq call k ag_l5 sg_l5 h_l5 k)).trans (by kernel_rfl)
  · rw [n23_28]
    rw [hSeq_e, hLoop_e, hBlock_hit]
    rw [hSeq_n]
    rw [show ((FF 193 d) |>.set 21 (d 4) |>.set 22 v1) = (FF 193 (gf ((FF 193 d) |>.set 21 (d 4) |>.set 22 v1))) from by kernel_rfl]
    exact (f23_r29_eq (d := gf ((FF 193 d) |>.set 21 (d 4) |>.set 22 v1)) call k).trans (by kernel_rfl)
noncomputable def f23_l5 (call : Handle) (k : Nat) : Nat → Value → Value → Value → GH → M (Value × GH)
  | 0, _, _, _, _ => none
  | r + 1, x0, x3, x4, H => f23_l5b call k (f23_l5 call k r) x0 x3 x4 H
theorem f23_l5_eq (call : Handle) (k : Nat) : ∀ (r : Nat), f23_l5_P (gLoop (gCode Try.prog call k (fAt Try.f23 [1,1,1,0,1,0,0])) (hBlock 0 (hSeq (gCode Try.prog call k (fAt Try.f23 [1,1,1,1])) (hFin Try.prog Try.f23))) r) (f23_l5 call k r) := by
  intro r
  induction r with
  | zero => unfold f23_l5_P; intros; rfl
  | succ r ih => unfold f23_l5_P; intros; exact f23_l5b_eq call k _ _ ih
noncomputable def f23_sh (call : Handle) (k : Nat) (p0 : Value) (H : GH) : M (Value × GH) :=
  onV (oLen Try.prog 58 p0) fun v1 =>
  onV ((oBin Try.prog .neq 3 v1 (.int .i64 6)).filter closed) fun v2 =>
  onBool (asB v2)
  (some [((.int .i64 5), H)])
  ((f23_l5 call k k p0 (.slice none 0 0) (.int .i64 0) H))
theorem f23_run (call : Handle) (k : Nat) (p0 : Value) (H : GH) : gCode Try.prog call k (fAt Try.f23 []) ((FF 193 fun _ => undef) |>.set 0 p0) H (hFin Try.prog Try.f23) = f23_sh call k p0 H := by
  unfold f23_sh
  rw [n23_0]
  rw [n23_1]
  rw [s23_0]
  rw [hSeq_n]
  rw [n23_2]
  rw [n23_3]
  rw [n23_4]
  rw [s23_1]
  refine onV_c fun v1 => ?_
  refine onV_c fun v2 => ?_
  rw [hSeq_n]
  rw [n23_5]
  refine onBool_cc (by kernel_rfl) ?_ ?_
  · rw [n23_6]
    rw [n23_7]
    rw [s23_2]
    rw [hSeq_n]
    rw [n23_8]
    rw [hSeq_r]
    kernel_rfl
  · rw [n23_9]
    rw [hSeq_n]
    rw [n23_10]
    rw [n23_11]
    rw [s23_3]
    rw [hSeq_n]
    rw [n23_12]
    rw [n23_13]
    rw [n23_14]
    rw [s23_4]
    rw [hSeq_n]
    rw [n23_15]
    rw [n23_16]
    rw [show ((FF 193 fun _ => undef) |>.set 0 p0 |>.set 2 (.int .i64 0) |>.set 18 p0 |>.set 19 v1 |>.set 20 v2 |>.set 3 (.slice none 0 0) |>.set 4 (.int .i64 0)) = (FF 193 (gf ((FF 193 fun _ => undef) |>.set 0 p0 |>.set 2 (.int .i64 0) |>.set 18 p0 |>.set 19 v1 |>.set 20 v2 |>.set 3 (.slice none 0 0) |>.set 4 (.int .i64 0)))) from by kernel_rfl]
    exact (f23_l5_at (d := gf ((FF 193 fun _ => undef) |>.set 0 p0 |>.set 2 (.int .i64 0) |>.set 18 p0 |>.set 19 v1 |>.set 20 v2 |>.set 3 (.slice none 0 0) |>.set 4 (.int .i64 0))) (f23_l5_eq call k k)).trans (by kernel_rfl)
theorem f23_eq (call : Handle) (k : Nat) (p0 : Value) (H : GH) : gFunc Try.prog call k Try.f23 [p0] H = f23_sh call k p0 H :=
  Eq.trans (by kernel_rfl) (f23_run call k p0 H)
end
end Go.Proofs.Ythicilkmjamefaa
