/- PRINTED by sh.py: shallow forms of functions of the program, each proved equal to what the ghost machine makes of its code. -/
import Derived.Test.YthicilkmjamefaaGkTop
import Derived.Test.YthicilkmjamefaaProg
namespace Go.Proofs.Ythicilkmjamefaa
open Go.Gh
set_option linter.unusedVariables false
set_option linter.unusedSimpArgs false
set_option maxRecDepth 100000
section
variable {β : Type} {call : Handle} {k : Nat} {a : GA} {K : Kont β} {K' : GA → GH → M β}
variable {d : Nat → Value} {xg : Value}
variable {p0 : Value}
variable {v1 v2 v3 v4 v5 v6 v7 : Value}
variable {H H2 : GH}
theorem n5_0 : gCode Try.prog call k (fAt Try.f5 []) a H K = gCode Try.prog call k (fAt Try.f5 [0]) a H (hSeq (gCode Try.prog call k (fAt Try.f5 [1])) K) := at_seq (by kernel_rfl)
theorem n5_1 : gCode Try.prog call k (fAt Try.f5 [0]) a H K = gOps Try.prog 0 call (opsAt (fAt Try.f5 [0])) ((opsAt (fAt Try.f5 [0])).drop 0) a H (K .normal) := at_region (by kernel_rfl)
theorem n5_2 : gCode Try.prog call k (fAt Try.f5 [1]) a H K = gCode Try.prog call k (fAt Try.f5 [1,0]) a H (hSeq (gCode Try.prog call k (fAt Try.f5 [1,1])) K) := at_seq (by kernel_rfl)
theorem n5_3 : gCode Try.prog call k (fAt Try.f5 [1,0]) a H K = gCode Try.prog call k (fAt Try.f5 [1,0,0]) a H (hSeq (gCode Try.prog call k (fAt Try.f5 [1,0,1])) K) := at_seq (by kernel_rfl)
theorem n5_4 : gCode Try.prog call k (fAt Try.f5 [1,0,0]) a H K = gOps Try.prog 0 call (opsAt (fAt Try.f5 [1,0,0])) ((opsAt (fAt Try.f5 [1,0,0])).drop 0) a H (K .normal) := at_region (by kernel_rfl)
theorem n5_5 : gCode Try.prog call k (fAt Try.f5 [1,0,1]) a H K = onBool (asB (GA.eval a (.tmp 18))) (gCode Try.prog call k (fAt Try.f5 [1,0,1,0]) a H K) (gCode Try.prog call k (fAt Try.f5 [1,0,1,1]) a H K) := at_cond (by kernel_rfl)
theorem n5_6 : gCode Try.prog call k (fAt Try.f5 [1,0,1,0]) a H K = gCode Try.prog call k (fAt Try.f5 [1,0,1,0,0]) a H (hSeq (gCode Try.prog call k (fAt Try.f5 [1,0,1,0,1])) K) := at_seq (by kernel_rfl)
theorem n5_7 : gCode Try.prog call k (fAt Try.f5 [1,0,1,0,0]) a H K = gOps Try.prog 0 call (opsAt (fAt Try.f5 [1,0,1,0,0])) ((opsAt (fAt Try.f5 [1,0,1,0,0])).drop 0) a H (K .normal) := at_region (by kernel_rfl)
theorem n5_8 : gCode Try.prog call k (fAt Try.f5 [1,0,1,0,1]) a H K = K .ret a H := at_ret (by kernel_rfl)
theorem n5_9 : gCode Try.prog call k (fAt Try.f5 [1,0,1,1]) a H K = K .normal a H := at_skip (by kernel_rfl)
theorem n5_10 : gCode Try.prog call k (fAt Try.f5 [1,1]) a H K = gCode Try.prog call k (fAt Try.f5 [1,1,0]) a H (hSeq (gCode Try.prog call k (fAt Try.f5 [1,1,1])) K) := at_seq (by kernel_rfl)
theorem n5_11 : gCode Try.prog call k (fAt Try.f5 [1,1,0]) a H K = gCode Try.prog call k (fAt Try.f5 [1,1,0,0]) a H (hSeq (gCode Try.prog call k (fAt Try.f5 [1,1,0,1])) K) := at_seq (by kernel_rfl)
theorem n5_12 : gCode Try.prog call k (fAt Try.f5 [1,1,0,0]) a H K = gOps Try.prog 0 call (opsAt (fAt Try.f5 [1,1,0,0])) ((opsAt (fAt Try.f5 [1,1,0,0])).drop 0) a H (K .normal) := at_region (by kernel_rfl)
theorem n5_13 : gCode Try.prog call k (fAt Try.f5 [1,1,0,1]) a H K = gCode Try.prog call k (fAt Try.f5 [1,1,0,1,0]) a H (hBlock 0 K) := at_block (by kernel_rfl)
theorem n5_14 : gCode Try.prog call k (fAt Try.f5 [1,1,0,1,0]) a H K = gLoop (gCode Try.prog call k (fAt Try.f5 [1,1,0,1,0,0])) K k a H := at_loop (by kernel_rfl)
theorem n5_15 : gCode Try.prog call k (fAt Try.f5 [1,1,0,1,0,0]) a H K = gCode Try.prog call k (fAt Try.f5 [1,1,0,1,0,0,0]) a H (hSeq (gCode Try.prog call k (fAt Try.f5 [1,1,0,1,0,0,1])) K) := at_seq (by kernel_rfl)
theorem n5_16 : gCode Try.prog call k (fAt Try.f5 [1,1,0,1,0,0,0]) a H K = gCode Try.prog call k (fAt Try.f5 [1,1,0,1,0,0,0,0]) a H (hSeq (gCode Try.prog call k (fAt Try.f5 [1,1,0,1,0,0,0,1])) K) := at_seq (by kernel_rfl)
theorem n5_17 : gCode Try.prog call k (fAt Try.f5 [1,1,0,1,0,0,0,0]) a H K = gOps Try.prog 0 call (opsAt (fAt Try.f5 [1,1,0,1,0,0,0,0])) ((opsAt (fAt Try.f5 [1,1,0,1,0,0,0,0])).drop 0) a H (K .normal) := at_region (by kernel_rfl)
theorem n5_18 : gCode Try.prog call k (fAt Try.f5 [1,1,0,1,0,0,0,1]) a H K = onBool (asB (GA.eval a (.tmp 23))) (gCode Try.prog call k (fAt Try.f5 [1,1,0,1,0,0,0,1,0]) a H K) (gCode Try.prog call k (fAt Try.f5 [1,1,0,1,0,0,0,1,1]) a H K) := at_cond (by kernel_rfl)
theorem n5_19 : gCode Try.prog call k (fAt Try.f5 [1,1,0,1,0,0,0,1,0]) a H K = K .normal a H := at_skip (by kernel_rfl)
theorem n5_20 : gCode Try.prog call k (fAt Try.f5 [1,1,0,1,0,0,1]) a H K = gCode Try.prog call k (fAt Try.f5 [1,1,0,1,0,0,1,0]) a H (hSeq (gCode Try.prog call k (fAt Try.f5 [1,1,0,1,0,0,1,1])) K) := at_seq (by kernel_rfl)
theorem n5_21 : gCode Try.prog call k (fAt Try.f5 [1,1,0,1,0,0,1,0]) a H K = gCode Try.prog call k (fAt Try.f5 [1,1,0,1,0,0,1,0,0]) a H (hBlock 1 K) := at_block (by kernel_rfl)
theorem n5_22 : gCode Try.prog call k (fAt Try.f5 [1,1,0,1,0,0,1,0,0]) a H K = gCode Try.prog call k (fAt Try.f5 [1,1,0,1,0,0,1,0,0,0]) a H (hSeq (gCode Try.prog call k (fAt Try.f5 [1,1,0,1,0,0,1,0,0,1])) K) := at_seq (by kernel_rfl)
theorem n5_23 : gCode Try.prog call k (fAt Try.f5 [1,1,0,1,0,0,1,0,0,0]) a H K = gCode Try.prog call k (fAt Try.f5 [1,1,0,1,0,0,1,0,0,0,0]) a H (hSeq (gCode Try.prog call k (fAt Try.f5 [1,1,0,1,0,0,1,0,0,0,1])) K) := at_seq (by kernel_rfl)
theorem n5_24 : gCode Try.prog call k (fAt Try.f5 [1,1,0,1,0,0,1,0,0,0,0]) a H K = gOps Try.prog 0 call (opsAt (fAt Try.f5 [1,1,0,1,0,0,1,0,0,0,0])) ((opsAt (fAt Try.f5 [1,1,0,1,0,0,1,0,0,0,0])).drop 0) a H (K .normal) := at_region (by kernel_rfl)
theorem n5_25 : gCode Try.prog call k (fAt Try.f5 [1,1,0,1,0,0,1,0,0,0,1]) a H K = onBool (asB (GA.eval a (.tmp 31))) (gCode Try.prog call k (fAt Try.f5 [1,1,0,1,0,0,1,0,0,0,1,0]) a H K) (gCode Try.prog call k (fAt Try.f5 [1,1,0,1,0,0,1,0,0,0,1,1]) a H K) := at_cond (by kernel_rfl)
theorem n5_26 : gCode Try.prog call k (fAt Try.f5 [1,1,0,1,0,0,1,0,0,0,1,0]) a H K = gCode Try.prog call k (fAt Try.f5 [1,1,0,1,0,0,1,0,0,0,1,0,0]) a H (hSeq (gCode Try.prog call k (fAt Try.f5 [1,1,0,1,0,0,1,0,0,0,1,0,1])) K) := at_seq (by kernel_rfl)
theorem n5_27 : gCode Try.prog call k (fAt Try.f5 [1,1,0,1,0,0,1,0,0,0,1,0,0]) a H K = gOps Try.prog 0 call (opsAt (fAt Try.f5 [1,1,0,1,0,0,1,0,0,0,1,0,0])) ((opsAt (fAt Try.f5 [1,1,0,1,0,0,1,0,0,0,1,0,0])).drop 0) a H (K .normal) := at_region (by kernel_rfl)
theorem n5_28 : gCode Try.prog call k (fAt Try.f5 [1,1,0,1,0,0,1,0,0,0,1,0,1]) a H K = K .ret a H := at_ret (by kernel_rfl)
theorem n5_29 : gCode Try.prog call k (fAt Try.f5 [1,1,0,1,0,0,1,0,0,0,1,1]) a H K = K .normal a H := at_skip (by kernel_rfl)
theorem n5_30 : gCode Try.prog call k (fAt Try.f5 [1,1,0,1,0,0,1,0,0,1]) a H K = gCode Try.prog call k (fAt Try.f5 [1,1,0,1,0,0,1,0,0,1,0]) a H (hSeq (gCode Try.prog call k (fAt Try.f5 [1,1,0,1,0,0,1,0,0,1,1])) K) := at_seq (by kernel_rfl)
theorem n5_31 : gCode Try.prog call k (fAt Try.f5 [1,1,0,1,0,0,1,0,0,1,0]) a H K = gOps Try.prog 0 call (opsAt (fAt Try.f5 [1,1,0,1,0,0,1,0,0,1,0])) ((opsAt (fAt Try.f5 [1,1,0,1,0,0,1,0,0,1,0])).drop 0) a H (K .normal) := at_region (by kernel_rfl)
theorem n5_32 : gCode Try.prog call k (fAt Try.f5 [1,1,0,1,0,0,1,0,0,1,1]) a H K = gCode Try.prog call k (fAt Try.f5 [1,1,0,1,0,0,1,0,0,1,1,0]) a H (hBlock 2 K) := at_block (by kernel_rfl)
theorem n5_33 : gCode Try.prog call k (fAt Try.f5 [1,1,0,1,0,0,1,0,0,1,1,0]) a H K = gLoop (gCode Try.prog call k (fAt Try.f5 [1,1,0,1,0,0,1,0,0,1,1,0,0])) K k a H := at_loop (by kernel_rfl)
theorem n5_34 : gCode Try.prog call k (fAt Try.f5 [1,1,0,1,0,0,0,1,1]) a H K = K (.exit 0) a H := at_exit (by kernel_rfl)
theorem n5_35 : gCode Try.prog call k (fAt Try.f5 [1,1,0,1,0,0,1,0,0,1,1,0,0]) a H K = gCode Try.prog call k (fAt Try.f5 [1,1,0,1,0,0,1,0,0,1,1,0,0,0]) a H (hSeq (gCode Try.prog call k (fAt Try.f5 [1,1,0,1,0,0,1,0,0,1,1,0,0,1])) K) := at_seq (by kernel_rfl)
theorem n5_36 : gCode Try.prog call k (fAt Try.f5 [1,1,0,1,0,0,1,0,0,1,1,0,0,0]) a H K = gCode Try.prog call k (fAt Try.f5 [1,1,0,1,0,0,1,0,0,1,1,0,0,0,0]) a H (hSeq (gCode Try.prog call k (fAt Try.f5 [1,1,0,1,0,0,1,0,0,1,1,0,0,0,1])) K) := at_seq (by kernel_rfl)
theorem n5_37 : gCode Try.prog call k (fAt Try.f5 [1,1,0,1,0,0,1,0,0,1,1,0,0,0,0]) a H K = gOps Try.prog 0 call (opsAt (fAt Try.f5 [1,1,0,1,0,0,1,0,0,1,1,0,0,0,0])) ((opsAt (fAt Try.f5 [1,1,0,1,0,0,1,0,0,1,1,0,0,0,0])).drop 0) a H (K .normal) := at_region (by kernel_rfl)
theorem n5_38 : gCode Try.prog call k (fAt Try.f5 [1,1,0,1,0,0,1,0,0,1,1,0,0,0,1]) a H K = onBool (asB (GA.eval a (.tmp 39))) (gCode Try.prog call k (fAt Try.f5 [1,1,0,1,0,0,1,0,0,1,1,0,0,0,1,0]) a H K) (gCode Try.prog call k (fAt Try.f5 [1,1,0,1,0,0,1,0,0,1,1,0,0,0,1,1]) a H K) := at_cond (by kernel_rfl)
theorem n5_39 : gCode Try.prog call k (fAt Try.f5 [1,1,0,1,0,0,1,0,0,1,1,0,0,0,1,0]) a H K = K .normal a H := at_skip (by kernel_rfl)
theorem n5_40 : gCode Try.prog call k (fAt Try.f5 [1,1,0,1,0,0,1,0,0,1,1,0,0,1]) a H K = gCode Try.prog call k (fAt Try.f5 [1,1,0,1,0,0,1,0,0,1,1,0,0,1,0]) a H (hSeq (gCode Try.prog call k (fAt Try.f5 [1,1,0,1,0,0,1,0,0,1,1,0,0,1,1])) K) := at_seq (by kernel_rfl)
theorem n5_41 : gCode Try.prog call k (fAt Try.f5 [1,1,0,1,0,0,1,0,0,1,1,0,0,1,0]) a H K = gCode Try.prog call k (fAt Try.f5 [1,1,0,1,0,0,1,0,0,1,1,0,0,1,0,0]) a H (hBlock 3 K) := at_block (by kernel_rfl)
theorem n5_42 : gCode Try.prog call k (fAt Try.f5 [1,1,0,1,0,0,1,0,0,1,1,0,0,1,0,0]) a H K = gCode Try.prog call k (fAt Try.f5 [1,1,0,1,0,0,1,0,0,1,1,0,0,1,0,0,0]) a H (hSeq (gCode Try.prog call k (fAt Try.f5 [1,1,0,1,0,0,1,0,0,1,1,0,0,1,0,0,1])) K) := at_seq (by kernel_rfl)
theorem n5_43 : gCode Try.prog call k (fAt Try.f5 [1,1,0,1,0,0,1,0,0,1,1,0,0,0,1,1]) a H K = K (.exit 2) a H := at_exit (by kernel_rfl)
theorem n5_44 : gCode Try.prog call k (fAt Try.f5 [1,1,0,1,0,0,1,1]) a H K = gOps Try.prog 0 call (opsAt (fAt Try.f5 [1,1,0,1,0,0,1,1])) ((opsAt (fAt Try.f5 [1,1,0,1,0,0,1,1])).drop 0) a H (K .normal) := at_region (by kernel_rfl)
theorem n5_45 : gCode Try.prog call k (fAt Try.f5 [1,1,1]) a H K = gCode Try.prog call k (fAt Try.f5 [1,1,1,0]) a H (hSeq (gCode Try.prog call k (fAt Try.f5 [1,1,1,1])) K) := at_seq (by kernel_rfl)
theorem n5_46 : gCode Try.prog call k (fAt Try.f5 [1,1,1,0]) a H K = gOps Try.prog 0 call (opsAt (fAt Try.f5 [1,1,1,0])) ((opsAt (fAt Try.f5 [1,1,1,0])).drop 0) a H (K .normal) := at_region (by kernel_rfl)
theorem n5_47 : gCode Try.prog call k (fAt Try.f5 [1,1,1,1]) a H K = gCode Try.prog call k (fAt Try.f5 [1,1,1,1,0]) a H (hSeq (gCode Try.prog call k (fAt Try.f5 [1,1,1,1,1])) K) := at_seq (by kernel_rfl)
theorem n5_48 : gCode Try.prog call k (fAt Try.f5 [1,1,1,1,0]) a H K = gOps Try.prog 0 call (opsAt (fAt Try.f5 [1,1,1,1,0])) ((opsAt (fAt Try.f5 [1,1,1,1,0])).drop 0) a H (K .normal) := at_region (by kernel_rfl)
theorem n5_49 : gCode Try.prog call k (fAt Try.f5 [1,1,1,1,1]) a H K = gCode Try.prog call k (fAt Try.f5 [1,1,1,1,1,0]) a H (hSeq (gCode Try.prog call k (fAt Try.f5 [1,1,1,1,1,1])) K) := at_seq (by kernel_rfl)
theorem n5_50 : gCode Try.prog call k (fAt Try.f5 [1,1,1,1,1,0]) a H K = gCode Try.prog call k (fAt Try.f5 [1,1,1,1,1,0,0]) a H (hSeq (gCode Try.prog call k (fAt Try.f5 [1,1,1,1,1,0,1])) K) := at_seq (by kernel_rfl)
theorem n5_51 : gCode Try.prog call k (fAt Try.f5 [1,1,0,1,0,0,1,0,0,1,1,0,0,1,0,0,0]) a H K = gOps Try.prog 0 call (opsAt (fAt Try.f5 [1,1,0,1,0,0,1,0,0,1,1,0,0,1,0,0,0])) ((opsAt (fAt Try.f5 [1,1,0,1,0,0,1,0,0,1,1,0,0,1,0,0,0])).drop 0) a H (K .normal) := at_region (by kernel_rfl)
theorem n5_52 : gCode Try.prog call k (fAt Try.f5 [1,1,1,1,1,0,0]) a H K = gOps Try.prog 0 call (opsAt (fAt Try.f5 [1,1,1,1,1,0,0])) ((opsAt (fAt Try.f5 [1,1,1,1,1,0,0])).drop 0) a H (K .normal) := at_region (by kernel_rfl)
theorem n5_53 : gCode Try.prog call k (fAt Try.f5 [1,1,0,1,0,0,1,0,0,1,1,0,0,1,0,0,1]) a H K = onBool (asB (GA.eval a (.tmp 63))) (gCode Try.prog call k (fAt Try.f5 [1,1,0,1,0,0,1,0,0,1,1,0,0,1,0,0,1,0]) a H K) (gCode Try.prog call k (fAt Try.f5 [1,1,0,1,0,0,1,0,0,1,1,0,0,1,0,0,1,1]) a H K) := at_cond (by kernel_rfl)
theorem n5_54 : gCode Try.prog call k (fAt Try.f5 [1,1,0,1,0,0,1,0,0,1,1,0,0,1,0,0,1,0]) a H K = gCode Try.prog call k (fAt Try.f5 [1,1,0,1,0,0,1,0,0,1,1,0,0,1,0,0,1,0,0]) a H (hSeq (gCode Try.prog call k (fAt Try.f5 [1,1,0,1,0,0,1,0,0,1,1,0,0,1,0,0,1,0,1])) K) := at_seq (by kernel_rfl)
theorem n5_55 : gCode Try.prog call k (fAt Try.f5 [1,1,0,1,0,0,1,0,0,1,1,0,0,1,0,0,1,0,0]) a H K = gOps Try.prog 0 call (opsAt (fAt Try.f5 [1,1,0,1,0,0,1,0,0,1,1,0,0,1,0,0,1,0,0])) ((opsAt (fAt Try.f5 [1,1,0,1,0,0,1,0,0,1,1,0,0,1,0,0,1,0,0])).drop 0) a H (K .normal) := at_region (by kernel_rfl)
theorem n5_56 : gCode Try.prog call k (fAt Try.f5 [1,1,0,1,0,0,1,0,0,1,1,0,0,1,0,0,1,0,1]) a H K = K .ret a H := at_ret (by kernel_rfl)
theorem n5_57 : gCode Try.prog call k (fAt Try.f5 [1,1,0,1,0,0,1,0,0,1,1,0,0,1,0,0,1,1]) a H K = K .normal a H := at_skip (by kernel_rfl)
theorem n5_58 : gCode Try.prog call k (fAt Try.f5 [1,1,0,1,0,0,1,0,0,1,1,0,0,1,1]) a H K = gOps Try.prog 0 call (opsAt (fAt Try.f5 [1,1,0,1,0,0,1,0,0,1,1,0,0,1,1])) ((opsAt (fAt Try.f5 [1,1,0,1,0,0,1,0,0,1,1,0,0,1,1])).drop 0) a H (K .normal) := at_region (by kernel_rfl)
theorem n5_59 : gCode Try.prog call k (fAt Try.f5 [1,1,1,1,1,0,1]) a H K = onBool (asB (GA.eval a (.tmp 80))) (gCode Try.prog call k (fAt Try.f5 [1,1,1,1,1,0,1,0]) a H K) (gCode Try.prog call k (fAt Try.f5 [1,1,1,1,1,0,1,1]) a H K) := at_cond (by kernel_rfl)
theorem n5_60 : gCode Try.prog call k (fAt Try.f5 [1,1,1,1,1,0,1,0]) a H K = gCode Try.prog call k (fAt Try.f5 [1,1,1,1,1,0,1,0,0]) a H (hSeq (gCode Try.prog call k (fAt Try.f5 [1,1,1,1,1,0,1,0,1])) K) := at_seq (by kernel_rfl)
theorem n5_61 : gCode Try.prog call k (fAt Try.f5 [1,1,1,1,1,0,1,0,0]) a H K = gOps Try.prog 0 call (opsAt (fAt Try.f5 [1,1,1,1,1,0,1,0,0])) ((opsAt (fAt Try.f5 [1,1,1,1,1,0,1,0,0])).drop 0) a H (K .normal) := at_region (by kernel_rfl)
theorem n5_62 : gCode Try.prog call k (fAt Try.f5 [1,1,1,1,1,0,1,0,1]) a H K = K .ret a H := at_ret (by kernel_rfl)
theorem n5_63 : gCode Try.prog call k (fAt Try.f5 [1,1,1,1,1,0,1,1]) a H K = K .normal a H := at_skip (by kernel_rfl)
theorem n5_64 : gCode Try.prog call k (fAt Try.f5 [1,1,1,1,1,1]) a H K = gCode Try.prog call k (fAt Try.f5 [1,1,1,1,1,1,0]) a H (hSeq (gCode Try.prog call k (fAt Try.f5 [1,1,1,1,1,1,1])) K) := at_seq (by kernel_rfl)
theorem n5_65 : gCode Try.prog call k (fAt Try.f5 [1,1,1,1,1,1,0]) a H K = gCode Try.prog call k (fAt Try.f5 [1,1,1,1,1,1,0,0]) a H (hSeq (gCode Try.prog call k (fAt Try.f5 [1,1,1,1,1,1,0,1])) K) := at_seq (by kernel_rfl)
theorem n5_66 : gCode Try.prog call k (fAt Try.f5 [1,1,1,1,1,1,0,0]) a H K = gOps Try.prog 0 call (opsAt (fAt Try.f5 [1,1,1,1,1,1,0,0])) ((opsAt (fAt Try.f5 [1,1,1,1,1,1,0,0])).drop 0) a H (K .normal) := at_region (by kernel_rfl)
theorem n5_67 : gCode Try.prog call k (fAt Try.f5 [1,1,1,1,1,1,0,1]) a H K = onBool (asB (GA.eval a (.tmp 82))) (gCode Try.prog call k (fAt Try.f5 [1,1,1,1,1,1,0,1,0]) a H K) (gCode Try.prog call k (fAt Try.f5 [1,1,1,1,1,1,0,1,1]) a H K) := at_cond (by kernel_rfl)
theorem n5_68 : gCode Try.prog call k (fAt Try.f5 [1,1,1,1,1,1,0,1,0]) a H K = gCode Try.prog call k (fAt Try.f5 [1,1,1,1,1,1,0,1,0,0]) a H (hSeq (gCode Try.prog call k (fAt Try.f5 [1,1,1,1,1,1,0,1,0,1])) K) := at_seq (by kernel_rfl)
theorem n5_69 : gCode Try.prog call k (fAt Try.f5 [1,1,1,1,1,1,0,1,0,0]) a H K = gOps Try.prog 0 call (opsAt (fAt Try.f5 [1,1,1,1,1,1,0,1,0,0])) ((opsAt (fAt Try.f5 [1,1,1,1,1,1,0,1,0,0])).drop 0) a H (K .normal) := at_region (by kernel_rfl)
theorem n5_70 : gCode Try.prog call k (fAt Try.f5 [1,1,1,1,1,1,0,1,0,1]) a H K = gCode Try.prog call k (fAt Try.f5 [1,1,1,1,1,1,0,1,0,1,0]) a H (hSeq (gCode Try.prog call k (fAt Try.f5 [1,1,1,1,1,1,0,1,0,1,1])) K) := at_seq (by kernel_rfl)
theorem n5_71 : gCode Try.prog call k (fAt Try.f5 [1,1,1,1,1,1,0,1,1]) a H K = K .normal a H := at_skip (by kernel_rfl)
theorem n5_72 : gCode Try.prog call k (fAt Try.f5 [1,1,1,1,1,1,1]) a H K = gCode Try.prog call k (fAt Try.f5 [1,1,1,1,1,1,1,0]) a H (hSeq (gCode Try.prog call k (fAt Try.f5 [1,1,1,1,1,1,1,1])) K) := at_seq (by kernel_rfl)
theorem n5_73 : gCode Try.prog call k (fAt Try.f5 [1,1,1,1,1,1,1,0]) a H K = gOps Try.prog 0 call (opsAt (fAt Try.f5 [1,1,1,1,1,1,1,0])) ((opsAt (fAt Try.f5 [1,1,1,1,1,1,1,0])).drop 0) a H (K .normal) := at_region (by kernel_rfl)
theorem n5_74 : gCode Try.prog call k (fAt Try.f5 [1,1,1,1,1,1,1,1]) a H K = gCode Try.prog call k (fAt Try.f5 [1,1,1,1,1,1,1,1,0]) a H (hSeq (gCode Try.prog call k (fAt Try.f5 [1,1,1,1,1,1,1,1,1])) K) := at_seq (by kernel_rfl)
theorem n5_75 : gCode Try.prog call k (fAt Try.f5 [1,1,1,1,1,1,0,1,0,1,0]) a H K = gOps Try.prog 0 call (opsAt (fAt Try.f5 [1,1,1,1,1,1,0,1,0,1,0])) ((opsAt (fAt Try.f5 [1,1,1,1,1,1,0,1,0,1,0])).drop 0) a H (K .normal) := at_region (by kernel_rfl)
theorem n5_76 : gCode Try.prog call k (fAt Try.f5 [1,1,1,1,1,1,1,1,0]) a H K = gOps Try.prog 0 call (opsAt (fAt Try.f5 [1,1,1,1,1,1,1,1,0])) ((opsAt (fAt Try.f5 [1,1,1,1,1,1,1,1,0])).drop 0) a H (K .normal) := at_region (by kernel_rfl)
theorem n5_77 : gCode Try.prog call k (fAt Try.f5 [1,1,1,1,1,1,1,1,1]) a H K = gCode Try.prog call k (fAt Try.f5 [1,1,1,1,1,1,1,1,1,0]) a H (hSeq (gCode Try.prog call k (fAt Try.f5 [1,1,1,1,1,1,1,1,1,1])) K) := at_seq (by kernel_rfl)
theorem n5_78 : gCode Try.prog call k (fAt Try.f5 [1,1,1,1,1,1,1,1,1,0]) a H K = gOps Try.prog 0 call (opsAt (fAt Try.f5 [1,1,1,1,1,1,1,1,1,0])) ((opsAt (fAt Try.f5 [1,1,1,1,1,1,1,1,1,0])).drop 0) a H (K .normal) := at_region (by kernel_rfl)
theorem n5_79 : gCode Try.prog call k (fAt Try.f5 [1,1,1,1,1,1,1,1,1,1]) a H K = gCode Try.prog call k (fAt Try.f5 [1,1,1,1,1,1,1,1,1,1,0]) a H (hSeq (gCode Try.prog call k (fAt Try.f5 [1,1,1,1,1,1,1,1,1,1,1])) K) := at_seq (by kernel_rfl)
theorem n5_80 : gCode Try.prog call k (fAt Try.f5 [1,1,1,1,1,1,0,1,0,1,1]) a H K = K .ret a H := at_ret (by kernel_rfl)
theorem n5_81 : gCode Try.prog call k (fAt Try.f5 [1,1,1,1,1,1,1,1,1,1,0]) a H K = gOps Try.prog 0 call (opsAt (fAt Try.f5 [1,1,1,1,1,1,1,1,1,1,0])) ((opsAt (fAt Try.f5 [1,1,1,1,1,1,1,1,1,1,0])).drop 0) a H (K .normal) := at_region (by kernel_rfl)
theorem n5_82 : gCode Try.prog call k (fAt Try.f5 [1,1,1,1,1,1,1,1,1,1,1]) a H K = K .ret a H := at_ret (by kernel_rfl)
theorem s5_0 : gOps Try.prog 0 call (opsAt (fAt Try.f5 [0])) ((opsAt (fAt Try.f5 [0])).drop 0) ((FF 131 fun _ => undef) |>.set 0 p0) H K' =
  K' ((FF 131 fun _ => undef) |>.set 0 p0 |>.set 2 (.bool false)) H := by kernel_rfl
theorem s5_1 : gOps Try.prog 0 call (opsAt (fAt Try.f5 [1,0,0])) ((opsAt (fAt Try.f5 [1,0,0])).drop 0) ((FF 131 fun _ => undef) |>.set 0 p0 |>.set 2 (.bool false)) H K' =
  onV (oLen Try.prog 58 p0) fun v1 =>
  onV ((oBin Try.prog .gtr 3 v1 (.int .i64 7)).filter closed) fun v2 =>
  K' ((FF 131 fun _ => undef) |>.set 0 p0 |>.set 2 (.bool false) |>.set 16 p0 |>.set 17 v1 |>.set 18 v2) H := by kernel_rfl
theorem s5_2 : gOps Try.prog 0 call (opsAt (fAt Try.f5 [1,0,1,0,0])) ((opsAt (fAt Try.f5 [1,0,1,0,0])).drop 0) ((FF 131 fun _ => undef) |>.set 0 p0 |>.set 2 (.bool false) |>.set 16 p0 |>.set 17 v1 |>.set 18 v2) H K' =
  onCall 0 call (.func (.func 22) #[] #[]) [] H fun v3 H4 =>
  K' ((FF 131 fun _ => undef) |>.set 0 p0 |>.set 2 (.bool false) |>.set 16 p0 |>.set 17 v1 |>.set 18 v2 |>.set 19 v3 |>.set 2 v3) H4 := by kernel_rfl
theorem s5_3 : gOps Try.prog 0 call (opsAt (fAt Try.f5 [1,1,0,0])) ((opsAt (fAt Try.f5 [1,1,0,0])).drop 0) ((FF 131 fun _ => undef) |>.set 0 p0 |>.set 2 (.bool false) |>.set 16 p0 |>.set 17 v1 |>.set 18 v2) H K' =
  K' ((FF 131 fun _ => undef) |>.set 0 p0 |>.set 2 (.bool false) |>.set 16 p0 |>.set 17 v1 |>.set 18 v2 |>.set 3 (.int .i64 0)) H := by kernel_rfl
theorem s5_4 : gOps Try.prog 0 call (opsAt (fAt Try.f5 [1,1,0,1,0,0,0,0])) ((opsAt (fAt Try.f5 [1,1,0,1,0,0,0,0])).drop 0) (FF 131 d) H K' =
  onV (oLen Try.prog 58 (d 0)) fun v1 =>
  onV ((oBin Try.prog .lss 3 (d 3) v1).filter closed) fun v2 =>
  K' ((FF 131 d) |>.set 20 (d 3) |>.set 21 (d 0) |>.set 22 v1 |>.set 23 v2) H := by kernel_rfl
theorem s5_5 : gOps Try.prog 0 call (opsAt (fAt Try.f5 [1,1,0,1,0,0,1,0,0,0,0])) ((opsAt (fAt Try.f5 [1,1,0,1,0,0,1,0,0,0,0])).drop 0) ((FF 131 d) |>.set 20 (d 3) |>.set 21 (d 0) |>.set 22 v1 |>.set 23 v2) H K' =
  onV (oIndexAddr Try.prog 58 (d 0) (d 3)) fun v3 =>
  onV (gLoad Try.prog 59 v3 H) fun v4 =>
  onV (oLen Try.prog 59 v4) fun v5 =>
  onV ((oBin Try.prog .gtr 3 v5 (.int .i64 12)).filter closed) fun v6 =>
  K' ((FF 131 d) |>.set 20 (d 3) |>.set 21 (d 0) |>.set 22 v1 |>.set 23 v2 |>.set 26 (d 0) |>.set 27 (d 3) |>.set 28 v3 |>.set 29 v4 |>.set 30 v5 |>.set 31 v6) H := by kernel_rfl
theorem s5_6 : gOps Try.prog 0 call (opsAt (fAt Try.f5 [1,1,0,1,0,0,1,0,0,0,1,0,0])) ((opsAt (fAt Try.f5 [1,1,0,1,0,0,1,0,0,0,1,0,0])).drop 0) ((FF 131 d) |>.set 20 (d 3) |>.set 21 (d 0) |>.set 22 v1 |>.set 23 v2 |>.set 26 (d 0) |>.set 27 (d 3) |>.set 28 v3 |>.set 29 v4 |>.set 30 v5 |>.set 31 v6) H K' =
  onCall 0 call (.func (.func 22) #[] #[]) [] H fun v7 H8 =>
  K' ((FF 131 d) |>.set 20 (d 3) |>.set 21 (d 0) |>.set 22 v1 |>.set 23 v2 |>.set 26 (d 0) |>.set 27 (d 3) |>.set 28 v3 |>.set 29 v4 |>.set 30 v5 |>.set 31 v6 |>.set 32 v7 |>.set 2 v7) H8 := by kernel_rfl
theorem s5_7 : gOps Try.prog 0 call (opsAt (fAt Try.f5 [1,1,0,1,0,0,1,0,0,1,0])) ((opsAt (fAt Try.f5 [1,1,0,1,0,0,1,0,0,1,0])).drop 0) ((FF 131 d) |>.set 20 (d 3) |>.set 21 (d 0) |>.set 22 v1 |>.set 23 v2 |>.set 26 (d 0) |>.set 27 (d 3) |>.set 28 v3 |>.set 29 v4 |>.set 30 v5 |>.set 31 v6) H K' =
  K' ((FF 131 d) |>.set 20 (d 3) |>.set 21 (d 0) |>.set 22 v1 |>.set 23 v2 |>.set 26 (d 0) |>.set 27 (d 3) |>.set 28 v3 |>.set 29 v4 |>.set 30 v5 |>.set 31 v6 |>.set 4 (.int .i64 0)) H := by kernel_rfl
theorem s5_8 : gOps Try.prog 0 call (opsAt (fAt Try.f5 [1,1,0,1,0,0,1,0,0,1,1,0,0,0,0])) ((opsAt (fAt Try.f5 [1,1,0,1,0,0,1,0,0,1,1,0,0,0,0])).drop 0) (FF 131 d) H K' =
  onV (oIndexAddr Try.prog 58 (d 0) (d 3)) fun v1 =>
  onV (gLoad Try.prog 59 v1 H) fun v2 =>
  onV (oLen Try.prog 59 v2) fun v3 =>
  onV ((oBin Try.prog .lss 3 (d 4) v3).filter closed) fun v4 =>
  K' ((FF 131 d) |>.set 33 (d 4) |>.set 34 (d 0) |>.set 35 (d 3) |>.set 36 v1 |>.set 37 v2 |>.set 38 v3 |>.set 39 v4) H := by kernel_rfl
theorem s5_9 : gOps Try.prog 0 call (opsAt (fAt Try.f5 [1,1,0,1,0,0,1,1])) ((opsAt (fAt Try.f5 [1,1,0,1,0,0,1,1])).drop 0) ((FF 131 d) |>.set 33 (d 4) |>.set 34 (d 0) |>.set 35 (d 3) |>.set 36 v1 |>.set 37 v2 |>.set 38 v3 |>.set 39 v4) H K' =
  onV ((oBin Try.prog .add 3 (d 3) (.int .i64 1)).filter closed) fun v5 =>
  K' ((FF 131 d) |>.set 33 (d 4) |>.set 34 (d 0) |>.set 35 (d 3) |>.set 36 v1 |>.set 37 v2 |>.set 38 v3 |>.set 39 v4 |>.set 24 (d 3) |>.set 25 v5 |>.set 3 v5) H := by kernel_rfl
theorem s5_10 : gOps Try.prog 0 call (opsAt (fAt Try.f5 [1,1,1,0])) ((opsAt (fAt Try.f5 [1,1,1,0])).drop 0) (FF 131 d) H K' =
  onCall 0 call (.func (.func 23) #[] #[]) [(d 0)] H fun v1 H2 =>
  K' ((FF 131 d) |>.set 65 (d 0) |>.set 66 v1 |>.set 5 v1) H2 := by kernel_rfl
theorem s5_11 : gOps Try.prog 0 call (opsAt (fAt Try.f5 [1,1,1,1,0])) ((opsAt (fAt Try.f5 [1,1,1,1,0])).drop 0) ((FF 131 d) |>.set 65 (d 0) |>.set 66 v1 |>.set 5 v1) H2 K' =
  onCall 0 call (.func (.func 24) #[] #[]) [(d 0)] H2 fun v3 H4 =>
  onV (oExtract v3 0) fun v5 =>
  onV (oExtract v3 1) fun v6 =>
  K' ((FF 131 d) |>.set 65 (d 0) |>.set 66 v1 |>.set 5 v1 |>.set 68 (d 0) |>.set 69 v3 |>.set 67 v3 |>.set 70 v5 |>.set 71 v6 |>.set 6 v5 |>.set 7 v6) H4 := by kernel_rfl
theorem s5_12 : gOps Try.prog 0 call (opsAt (fAt Try.f5 [1,1,0,1,0,0,1,0,0,1,1,0,0,1,0,0,0])) (((opsAt (fAt Try.f5 [1,1,0,1,0,0,1,0,0,1,1,0,0,1,0,0,0])).drop 0).take 11) (FF 131 d) H K' =
  onV (oIndexAddr Try.prog 58 (d 0) (d 3)) fun v1 =>
  onV (gLoad Try.prog 59 v1 H) fun v2 =>
  onV (oIndexAddr Try.prog 59 v2 (d 4)) fun v3 =>
  onV (oFieldAddr Try.prog 62 v3 2) fun v4 =>
  onV (gLoad Try.prog 26 v4 H) fun v5 =>
  onV (oLen Try.prog 26 v5) fun v6 =>
  onV ((oBin Try.prog .gtr 3 v6 (.int .i64 6)).filter closed) fun v7 =>
  onGrd true v7 (K' ((FF 131 d) |>.set 42 (d 0) |>.set 43 (d 3) |>.set 44 v1 |>.set 45 v2 |>.set 46 (d 4) |>.set 47 v3 |>.set 48 v4 |>.set 49 v5 |>.set 50 v6 |>.set 51 v7 |>.set 52 v7) H) := by kernel_rfl
theorem s5_13 : gOps Try.prog 0 call (opsAt (fAt Try.f5 [1,1,1,1,1,0,0])) (((opsAt (fAt Try.f5 [1,1,1,1,1,0,0])).drop 0).take 5) (FF 131 d) H K' =
  onCall 0 call (.func (.func 25) #[] #[]) [(d 0)] H fun v1 H2 =>
  onV ((oBin Try.prog .neq 27 v1 (d 5)).filter closed) fun v3 =>
  onGrd true v3 (K' ((FF 131 d) |>.set 72 (d 0) |>.set 73 v1 |>.set 74 (d 5) |>.set 75 v3 |>.set 76 v3) H2) := by kernel_rfl
theorem s5_14 : gOps Try.prog 0 call (opsAt (fAt Try.f5 [1,1,0,1,0,0,1,0,0,1,1,0,0,1,0,0,0])) ((opsAt (fAt Try.f5 [1,1,0,1,0,0,1,0,0,1,1,0,0,1,0,0,0])).drop 11) ((FF 131 d) |>.set 52 (.bool true)) H K' =
  K' ((FF 131 d) |>.set 52 (.bool true) |>.set 53 undef |>.set 54 undef |>.set 55 undef |>.set 56 undef |>.set 57 undef |>.set 58 undef |>.set 59 undef |>.set 60 undef |>.set 61 undef |>.set 62 undef |>.set 63 (.bool true)) H := by kernel_rfl
theorem s5_15 : gOps Try.prog 0 call (opsAt (fAt Try.f5 [1,1,0,1,0,0,1,0,0,1,1,0,0,1,0,0,1,0,0])) ((opsAt (fAt Try.f5 [1,1,0,1,0,0,1,0,0,1,1,0,0,1,0,0,1,0,0])).drop 0) ((FF 131 d) |>.set 52 (.bool true) |>.set 53 undef |>.set 54 undef |>.set 55 undef |>.set 56 undef |>.set 57 undef |>.set 58 undef |>.set 59 undef |>.set 60 undef |>.set 61 undef |>.set 62 undef |>.set 63 (.bool true)) H K' =
  onCall 0 call (.func (.func 22) #[] #[]) [] H fun v1 H2 =>
  K' ((FF 131 d) |>.set 52 (.bool true) |>.set 53 undef |>.set 54 undef |>.set 55 undef |>.set 56 undef |>.set 57 undef |>.set 58 undef |>.set 59 undef |>.set 60 undef |>.set 61 undef |>.set 62 undef |>.set 63 (.bool true) |>.set 64 v1 |>.set 2 v1) H2 := by kernel_rfl
theorem s5_16 : gOps Try.prog 0 call (opsAt (fAt Try.f5 [1,1,0,1,0,0,1,0,0,1,1,0,0,1,0,0,0])) ((opsAt (fAt Try.f5 [1,1,0,1,0,0,1,0,0,1,1,0,0,1,0,0,0])).drop 11) ((FF 131 d) |>.set 52 (.bool false)) H K' =
  onV (oIndexAddr Try.prog 58 (d 0) (d 3)) fun v1 =>
  onV (gLoad Try.prog 59 v1 H) fun v2 =>
  onV (oIndexAddr Try.prog 59 v2 (d 4)) fun v3 =>
  onV (oFieldAddr Try.prog 62 v3 3) fun v4 =>
  onV (gLoad Try.prog 60 v4 H) fun v5 =>
  onV (oLen Try.prog 60 v5) fun v6 =>
  onV ((oBin Try.prog .gtr 3 v6 (.int .i64 6)).filter closed) fun v7 =>
  K' ((FF 131 d) |>.set 52 (.bool false) |>.set 53 (d 0) |>.set 54 (d 3) |>.set 55 v1 |>.set 56 v2 |>.set 57 (d 4) |>.set 58 v3 |>.set 59 v4 |>.set 60 v5 |>.set 61 v6 |>.set 62 v7 |>.set 63 v7) H := by kernel_rfl
theorem s5_17 : gOps Try.prog 0 call (opsAt (fAt Try.f5 [1,1,0,1,0,0,1,0,0,1,1,0,0,1,0,0,1,0,0])) ((opsAt (fAt Try.f5 [1,1,0,1,0,0,1,0,0,1,1,0,0,1,0,0,1,0,0])).drop 0) ((FF 131 d) |>.set 52 (.bool false) |>.set 53 (d 0) |>.set 54 (d 3) |>.set 55 v1 |>.set 56 v2 |>.set 57 (d 4) |>.set 58 v3 |>.set 59 v4 |>.set 60 v5 |>.set 61 v6 |>.set 62 v7 |>.set 63 v7) H K' =
  onCall 0 call (.func (.func 22) #[] #[]) [] H fun v8 H9 =>
  K' ((FF 131 d) |>.set 52 (.bool false) |>.set 53 (d 0) |>.set 54 (d 3) |>.set 55 v1 |>.set 56 v2 |>.set 57 (d 4) |>.set 58 v3 |>.set 59 v4 |>.set 60 v5 |>.set 61 v6 |>.set 62 v7 |>.set 63 v7 |>.set 64 v8 |>.set 2 v8) H9 := by kernel_rfl
theorem s5_18 : gOps Try.prog 0 call (opsAt (fAt Try.f5 [1,1,0,1,0,0,1,0,0,1,1,0,0,1,1])) ((opsAt (fAt Try.f5 [1,1,0,1,0,0,1,0,0,1,1,0,0,1,1])).drop 0) ((FF 131 d) |>.set 52 (.bool false) |>.set 53 (d 0) |>.set 54 (d 3) |>.set 55 v1 |>.set 56 v2 |>.set 57 (d 4) |>.set 58 v3 |>.set 59 v4 |>.set 60 v5 |>.set 61 v6 |>.set 62 v7 |>.set 63 v7) H K' =
  onV ((oBin Try.prog .add 3 (d 4) (.int .i64 1)).filter closed) fun v10 =>
  K' ((FF 131 d) |>.set 52 (.bool false) |>.set 53 (d 0) |>.set 54 (d 3) |>.set 55 v1 |>.set 56 v2 |>.set 57 (d 4) |>.set 58 v3 |>.set 59 v4 |>.set 60 v5 |>.set 61 v6 |>.set 62 v7 |>.set 63 v7 |>.set 40 (d 4) |>.set 41 v10 |>.set 4 v10) H := by kernel_rfl
theorem s5_19 : gOps Try.prog 0 call (opsAt (fAt Try.f5 [1,1,1,1,1,0,0])) ((opsAt (fAt Try.f5 [1,1,1,1,1,0,0])).drop 5) ((FF 131 d) |>.set 76 (.bool true)) H K' =
  K' ((FF 131 d) |>.set 76 (.bool true) |>.set 77 undef |>.set 78 undef |>.set 79 undef |>.set 80 (.bool true)) H := by kernel_rfl
theorem s5_20 : gOps Try.prog 0 call (opsAt (fAt Try.f5 [1,1,1,1,1,0,1,0,0])) ((opsAt (fAt Try.f5 [1,1,1,1,1,0,1,0,0])).drop 0) ((FF 131 d) |>.set 76 (.bool true) |>.set 77 undef |>.set 78 undef |>.set 79 undef |>.set 80 (.bool true)) H K' =
  K' ((FF 131 d) |>.set 76 (.bool true) |>.set 77 undef |>.set 78 undef |>.set 79 undef |>.set 80 (.bool true) |>.set 2 (.bool false)) H := by kernel_rfl
theorem s5_21 : gOps Try.prog 0 call (opsAt (fAt Try.f5 [1,1,1,1,1,0,0])) ((opsAt (fAt Try.f5 [1,1,1,1,1,0,0])).drop 5) ((FF 131 d) |>.set 76 (.bool false)) H K' =
  onV ((oBin Try.prog .neq 27 (d 7) (d 5)).filter closed) fun v1 =>
  K' ((FF 131 d) |>.set 76 (.bool false) |>.set 77 (d 7) |>.set 78 (d 5) |>.set 79 v1 |>.set 80 v1) H := by kernel_rfl
theorem s5_22 : gOps Try.prog 0 call (opsAt (fAt Try.f5 [1,1,1,1,1,0,1,0,0])) ((opsAt (fAt Try.f5 [1,1,1,1,1,0,1,0,0])).drop 0) ((FF 131 d) |>.set 76 (.bool false) |>.set 77 (d 7) |>.set 78 (d 5) |>.set 79 v1 |>.set 80 v1) H K' =
  K' ((FF 131 d) |>.set 76 (.bool false) |>.set 77 (d 7) |>.set 78 (d 5) |>.set 79 v1 |>.set 80 v1 |>.set 2 (.bool false)) H := by kernel_rfl
theorem s5_23 : gOps Try.prog 0 call (opsAt (fAt Try.f5 [1,1,1,1,1,1,0,0])) ((opsAt (fAt Try.f5 [1,1,1,1,1,1,0,0])).drop 0) ((FF 131 d) |>.set 76 (.bool false) |>.set 77 (d 7) |>.set 78 (d 5) |>.set 79 v1 |>.set 80 v1) H K' =
  onV ((oBin Try.prog .neq 27 (d 5) (.int .i64 0)).filter closed) fun v2 =>
  K' ((FF 131 d) |>.set 76 (.bool false) |>.set 77 (d 7) |>.set 78 (d 5) |>.set 79 v1 |>.set 80 v1 |>.set 81 (d 5) |>.set 82 v2) H := by kernel_rfl
theorem s5_24 : gOps Try.prog 0 call (opsAt (fAt Try.f5 [1,1,1,1,1,1,0,1,0,0])) ((opsAt (fAt Try.f5 [1,1,1,1,1,1,0,1,0,0])).drop 0) ((FF 131 d) |>.set 76 (.bool false) |>.set 77 (d 7) |>.set 78 (d 5) |>.set 79 v1 |>.set 80 v1 |>.set 81 (d 5) |>.set 82 v2) H K' =
  onCall 0 call (.func (.func 26) #[] #[]) [(d 0), (.int .u8 1), (.agg #[(.int .u8 0), (.bool true), (.slice none 0 0), (.slice none 0 0)])] H fun v3 H4 =>
  onV (oExtract v3 0) fun v5 =>
  onV (oExtract v3 1) fun v6 =>
  K' ((FF 131 d) |>.set 76 (.bool false) |>.set 77 (d 7) |>.set 78 (d 5) |>.set 79 v1 |>.set 80 v1 |>.set 81 (d 5) |>.set 82 v2 |>.set 84 (d 0) |>.set 85 (.agg #[(.int .u8 0), (.bool true), (.slice none 0 0), (.slice none 0 0)]) |>.set 86 v3 |>.set 83 v3 |>.set 87 v5 |>.set 88 v6 |>.set 8 v5 |>.set 9 v6) H4 := by kernel_rfl
theorem s5_25 : gOps Try.prog 0 call (opsAt (fAt Try.f5 [1,1,1,1,1,1,1,0])) ((opsAt (fAt Try.f5 [1,1,1,1,1,1,1,0])).drop 0) ((FF 131 d) |>.set 76 (.bool false) |>.set 77 (d 7) |>.set 78 (d 5) |>.set 79 v1 |>.set 80 v1 |>.set 81 (d 5) |>.set 82 v2) H K' =
  onCall 0 call (.func (.func 26) #[] #[]) [(d 0), (.int .u8 0), (.agg #[(.int .u8 0), (.bool false), (.slice none 0 0), (.slice none 0 0)])] H fun v7 H8 =>
  onV (oExtract v7 0) fun v9 =>
  onV (oExtract v7 1) fun v10 =>
  K' ((FF 131 d) |>.set 76 (.bool false) |>.set 77 (d 7) |>.set 78 (d 5) |>.set 79 v1 |>.set 80 v1 |>.set 81 (d 5) |>.set 82 v2 |>.set 101 (d 0) |>.set 102 (.agg #[(.int .u8 0), (.bool false), (.slice none 0 0), (.slice none 0 0)]) |>.set 103 v7 |>.set 100 v7 |>.set 104 v9 |>.set 105 v10 |>.set 10 v9 |>.set 11 v10) H8 := by kernel_rfl
theorem s5_26 : gOps Try.prog 0 call (opsAt (fAt Try.f5 [1,1,1,1,1,1,0,1,0,1,0])) (((opsAt (fAt Try.f5 [1,1,1,1,1,1,0,1,0,1,0])).drop 0).take 4) (FF 131 d) H K' =
  onV ((oBin Try.prog .eql 27 (d 9) (d 5)).filter closed) fun v1 =>
  onGrd true v1 (K' ((FF 131 d) |>.set 89 (d 9) |>.set 90 (d 5) |>.set 91 v1 |>.set 92 v1) H) := by kernel_rfl
theorem s5_27 : gOps Try.prog 0 call (opsAt (fAt Try.f5 [1,1,1,1,1,1,1,1,0])) ((opsAt (fAt Try.f5 [1,1,1,1,1,1,1,1,0])).drop 0) (FF 131 d) H K' =
  onCall 0 call (.func (.func 26) #[] #[]) [(d 0), (.int .u8 7), (.agg #[(.int .u8 0), (.bool false), (.slice none 0 0), (.slice none 0 0)])] H fun v1 H2 =>
  onV (oExtract v1 0) fun v3 =>
  onV (oExtract v1 1) fun v4 =>
  K' ((FF 131 d) |>.set 107 (d 0) |>.set 108 (.agg #[(.int .u8 0), (.bool false), (.slice none 0 0), (.slice none 0 0)]) |>.set 109 v1 |>.set 106 v1 |>.set 110 v3 |>.set 111 v4 |>.set 12 v3 |>.set 13 v4) H2 := by kernel_rfl
theorem s5_28 : gOps Try.prog 0 call (opsAt (fAt Try.f5 [1,1,1,1,1,1,1,1,1,0])) ((opsAt (fAt Try.f5 [1,1,1,1,1,1,1,1,1,0])).drop 0) ((FF 131 d) |>.set 107 (d 0) |>.set 108 (.agg #[(.int .u8 0), (.bool false), (.slice none 0 0), (.slice none 0 0)]) |>.set 109 v1 |>.set 106 v1 |>.set 110 v3 |>.set 111 v4 |>.set 12 v3 |>.set 13 v4) H2 K' =
  onCall 0 call (.func (.func 26) #[] #[]) [(d 0), (.int .u8 3), (.agg #[(.int .u8 2), (.bool false), (.slice none 0 0), (.slice none 0 0)])] H2 fun v5 H6 =>
  onV (oExtract v5 0) fun v7 =>
  onV (oExtract v5 1) fun v8 =>
  K' ((FF 131 d) |>.set 107 (d 0) |>.set 108 (.agg #[(.int .u8 0), (.bool false), (.slice none 0 0), (.slice none 0 0)]) |>.set 109 v1 |>.set 106 v1 |>.set 110 v3 |>.set 111 v4 |>.set 12 v3 |>.set 13 v4 |>.set 113 (d 0) |>.set 114 (.agg #[(.int .u8 2), (.bool false), (.slice none 0 0), (.slice none 0 0)]) |>.set 115 v5 |>.set 112 v5 |>.set 116 v7 |>.set 117 v8 |>.set 14 v7 |>.set 15 v8) H6 := by kernel_rfl
theorem s5_29 : gOps Try.prog 0 call (opsAt (fAt Try.f5 [1,1,1,1,1,1,0,1,0,1,0])) (((opsAt (fAt Try.f5 [1,1,1,1,1,1,0,1,0,1,0])).drop 4).take 5) ((FF 131 d) |>.set 92 (.bool true)) H K' =
  onV (oLen Try.prog 58 (d 8)) fun v1 =>
  onV ((oBin Try.prog .eql 3 v1 (.int .i64 0)).filter closed) fun v2 =>
  onGrd true v2 (K' ((FF 131 d) |>.set 92 (.bool true) |>.set 93 (d 8) |>.set 94 v1 |>.set 95 v2 |>.set 96 v2 |>.set 97 v2) H) := by kernel_rfl
theorem s5_30 : gOps Try.prog 0 call (opsAt (fAt Try.f5 [1,1,1,1,1,1,0,1,0,1,0])) ((opsAt (fAt Try.f5 [1,1,1,1,1,1,0,1,0,1,0])).drop 4) ((FF 131 d) |>.set 92 (.bool false)) H K' =
  K' ((FF 131 d) |>.set 92 (.bool false) |>.set 93 undef |>.set 94 undef |>.set 95 undef |>.set 96 (.bool false) |>.set 97 (.bool false) |>.set 98 undef |>.set 99 (.bool false) |>.set 2 (.bool false)) H := by kernel_rfl
theorem s5_31 : gOps Try.prog 0 call (opsAt (fAt Try.f5 [1,1,1,1,1,1,1,1,1,1,0])) (((opsAt (fAt Try.f5 [1,1,1,1,1,1,1,1,1,1,0])).drop 0).take 3) (FF 131 d) H K' =
  onV ((oBin Try.prog .eql 27 (d 11) (.int .i64 1)).filter closed) fun v1 =>
  onGrd true v1 (K' ((FF 131 d) |>.set 118 (d 11) |>.set 119 v1 |>.set 120 v1) H) := by kernel_rfl
theorem s5_32 : gOps Try.prog 0 call (opsAt (fAt Try.f5 [1,1,1,1,1,1,0,1,0,1,0])) ((opsAt (fAt Try.f5 [1,1,1,1,1,1,0,1,0,1,0])).drop 9) ((FF 131 d) |>.set 97 (.bool true)) H K' =
  onCall 0 call (.func (.func 22) #[] #[]) [] H fun v1 H2 =>
  K' ((FF 131 d) |>.set 97 (.bool true) |>.set 98 v1 |>.set 99 v1 |>.set 2 v1) H2 := by kernel_rfl
theorem s5_33 : gOps Try.prog 0 call (opsAt (fAt Try.f5 [1,1,1,1,1,1,0,1,0,1,0])) ((opsAt (fAt Try.f5 [1,1,1,1,1,1,0,1,0,1,0])).drop 9) ((FF 131 d) |>.set 97 (.bool false)) H K' =
  K' ((FF 131 d) |>.set 97 (.bool false) |>.set 98 undef |>.set 99 (.bool false) |>.set 2 (.bool false)) H := by kernel_rfl
theorem s5_34 : gOps Try.prog 0 call (opsAt (fAt Try.f5 [1,1,1,1,1,1,1,1,1,1,0])) (((opsAt (fAt Try.f5 [1,1,1,1,1,1,1,1,1,1,0])).drop 3).take 4) ((FF 131 d) |>.set 120 (.bool true)) H K' =
  onV ((oBin Try.prog .eql 27 (d 13) (.int .i64 1)).filter closed) fun v1 =>
  onGrd true v1 (K' ((FF 131 d) |>.set 120 (.bool true) |>.set 121 (d 13) |>.set 122 v1 |>.set 123 v1 |>.set 124 v1) H) := by kernel_rfl
theorem s5_35 : gOps Try.prog 0 call (opsAt (fAt Try.f5 [1,1,1,1,1,1,1,1,1,1,0])) ((opsAt (fAt Try.f5 [1,1,1,1,1,1,1,1,1,1,0])).drop 3) ((FF 131 d) |>.set 120 (.bool false)) H K' =
  K' ((FF 131 d) |>.set 120 (.bool false) |>.set 121 undef |>.set 122 undef |>.set 123 (.bool false) |>.set 124 (.bool false) |>.set 125 undef |>.set 126 undef |>.set 127 (.bool false) |>.set 128 (.bool false) |>.set 129 undef |>.set 130 (.bool false) |>.set 2 (.bool false)) H := by kernel_rfl
theorem s5_36 : gOps Try.prog 0 call (opsAt (fAt Try.f5 [1,1,1,1,1,1,1,1,1,1,0])) (((opsAt (fAt Try.f5 [1,1,1,1,1,1,1,1,1,1,0])).drop 7).take 4) ((FF 131 d) |>.set 124 (.bool true)) H K' =
  onV ((oBin Try.prog .eql 27 (d 15) (.int .i64 1)).filter closed) fun v1 =>
  onGrd true v1 (K' ((FF 131 d) |>.set 124 (.bool true) |>.set 125 (d 15) |>.set 126 v1 |>.set 127 v1 |>.set 128 v1) H) := by kernel_rfl
theorem s5_37 : gOps Try.prog 0 call (opsAt (fAt Try.f5 [1,1,1,1,1,1,1,1,1,1,0])) ((opsAt (fAt Try.f5 [1,1,1,1,1,1,1,1,1,1,0])).drop 7) ((FF 131 d) |>.set 124 (.bool false)) H K' =
  K' ((FF 131 d) |>.set 124 (.bool false) |>.set 125 undef |>.set 126 undef |>.set 127 (.bool false) |>.set 128 (.bool false) |>.set 129 undef |>.set 130 (.bool false) |>.set 2 (.bool false)) H := by kernel_rfl
theorem s5_38 : gOps Try.prog 0 call (opsAt (fAt Try.f5 [1,1,1,1,1,1,1,1,1,1,0])) ((opsAt (fAt Try.f5 [1,1,1,1,1,1,1,1,1,1,0])).drop 11) ((FF 131 d) |>.set 128 (.bool true)) H K' =
  onCall 0 call (.func (.func 22) #[] #[]) [] H fun v1 H2 =>
  K' ((FF 131 d) |>.set 128 (.bool true) |>.set 129 v1 |>.set 130 v1 |>.set 2 v1) H2 := by kernel_rfl
theorem s5_39 : gOps Try.prog 0 call (opsAt (fAt Try.f5 [1,1,1,1,1,1,1,1,1,1,0])) ((opsAt (fAt Try.f5 [1,1,1,1,1,1,1,1,1,1,0])).drop 11) ((FF 131 d) |>.set 128 (.bool false)) H K' =
  K' ((FF 131 d) |>.set 128 (.bool false) |>.set 129 undef |>.set 130 (.bool false) |>.set 2 (.bool false)) H := by kernel_rfl
def f5_l9_P (ag : GA → GH → M (Value × GH)) (sg : Value → Value → Value → GH → M (Value × GH)) : Prop := ∀ (d : Nat → Value) (H : GH), ag (FF 131 d) H = sg (d 0) (d 3) (d 4) H
theorem f5_l9_at {ag : GA → GH → M (Value × GH)} {sg : Value → Value → Value → GH → M (Value × GH)} (h : f5_l9_P ag sg) : ag (FF 131 d) H = sg (d 0) (d 3) (d 4) H := h d H
def f5_l4_P (ag : GA → GH → M (Value × GH)) (sg : Value → Value → GH → M (Value × GH)) : Prop := ∀ (d : Nat → Value) (H : GH), ag (FF 131 d) H = sg (d 0) (d 3) H
theorem f5_l4_at {ag : GA → GH → M (Value × GH)} {sg : Value → Value → GH → M (Value × GH)} (h : f5_l4_P ag sg) : ag (FF 131 d) H = sg (d 0) (d 3) H := h d H
noncomputable def f5_g19_9 (call : Handle) (k : Nat) (x97 : Value) (H : GH) : M (Value × GH) :=
 onBool (asB x97)
  (onCall 0 call (.func (.func 22) #[] #[]) [] H fun v1 H2 =>
  some [(v1, H2)])
  (some [((.bool false), H)])
theorem f5_g19_9_true (call : Handle) (k : Nat) : gOps Try.prog 0 call (opsAt (fAt Try.f5 [1,1,1,1,1,1,0,1,0,1,0])) ((opsAt (fAt Try.f5 [1,1,1,1,1,1,0,1,0,1,0])).drop 9) ((FF 131 d) |>.set 97 (.bool true)) H ((hSeq (gCode Try.prog call k (fAt Try.f5 [1,1,1,1,1,1,0,1,0,1,1])) (hSeq (gCode Try.prog call k (fAt Try.f5 [1,1,1,1,1,1,1])) (hFin Try.prog Try.f5))) .normal) =
  onCall 0 call (.func (.func 22) #[] #[]) [] H fun v1 H2 =>
  some [(v1, H2)] := by
  rw [s5_32]
  refine onCall_c fun v1 H2 => ?_
  rw [hSeq_n]
  rw [n5_80]
  rw [hSeq_r]
  kernel_rfl
theorem f5_g19_9_false (call : Handle) (k : Nat) : gOps Try.prog 0 call (opsAt (fAt Try.f5 [1,1,1,1,1,1,0,1,0,1,0])) ((opsAt (fAt Try.f5 [1,1,1,1,1,1,0,1,0,1,0])).drop 9) ((FF 131 d) |>.set 97 (.bool false)) H ((hSeq (gCode Try.prog call k (fAt Try.f5 [1,1,1,1,1,1,0,1,0,1,1])) (hSeq (gCode Try.prog call k (fAt Try.f5 [1,1,1,1,1,1,1])) (hFin Try.prog Try.f5))) .normal) =
  some [((.bool false), H)] := by
  rw [s5_33]
  rw [hSeq_n]
  rw [n5_80]
  rw [hSeq_r]
  kernel_rfl
theorem f5_g19_9_eq (call : Handle) (k : Nat) : onGrd true xg (gOps Try.prog 0 call (opsAt (fAt Try.f5 [1,1,1,1,1,1,0,1,0,1,0])) ((opsAt (fAt Try.f5 [1,1,1,1,1,1,0,1,0,1,0])).drop 9) ((FF 131 d) |>.set 97 xg) H ((hSeq (gCode Try.prog call k (fAt Try.f5 [1,1,1,1,1,1,0,1,0,1,1])) (hSeq (gCode Try.prog call k (fAt Try.f5 [1,1,1,1,1,1,1])) (hFin Try.prog Try.f5))) .normal)) =
  f5_g19_9 call k xg H := by
  cases xg with
  | bool b => cases b with
    | true => exact onGrd_b.trans (f5_g19_9_true call k)
    | false => exact onGrd_b.trans (f5_g19_9_false call k)
  | _ => kernel_rfl
noncomputable def f5_g19_4 (call : Handle) (k : Nat) (x92 : Value) (x8 : Value) (H : GH) : M (Value × GH) :=
 onBool (asB x92)
  (onV (oLen Try.prog 58 x8) fun v1 =>
  onV ((oBin Try.prog .eql 3 v1 (.int .i64 0)).filter closed) fun v2 =>
  (f5_g19_9 call k v2 H))
  (some [((.bool false), H)])
theorem f5_g19_4_true (call : Handle) (k : Nat) : gOps Try.prog 0 call (opsAt (fAt Try.f5 [1,1,1,1,1,1,0,1,0,1,0])) ((opsAt (fAt Try.f5 [1,1,1,1,1,1,0,1,0,1,0])).drop 4) ((FF 131 d) |>.set 92 (.bool true)) H ((hSeq (gCode Try.prog call k (fAt Try.f5 [1,1,1,1,1,1,0,1,0,1,1])) (hSeq (gCode Try.prog call k (fAt Try.f5 [1,1,1,1,1,1,1])) (hFin Try.prog Try.f5))) .normal) =
  onV (oLen Try.prog 58 (d 8)) fun v1 =>
  onV ((oBin Try.prog .eql 3 v1 (.int .i64 0)).filter closed) fun v2 =>
  (f5_g19_9 call k v2 H) := by
  rw [gOps_split 4 5, s5_29]
  refine onV_c fun v1 => ?_
  refine onV_c fun v2 => ?_
  rw [show ((FF 131 d) |>.set 92 (.bool true) |>.set 93 (d 8) |>.set 94 v1 |>.set 95 v2 |>.set 96 v2 |>.set 97 v2) = ((FF 131 (gf ((FF 131 d) |>.set 92 (.bool true) |>.set 93 (d 8) |>.set 94 v1 |>.set 95 v2 |>.set 96 v2 |>.set 97 v2))) |>.set 97 v2) from by kernel_rfl]
  exact (f5_g19_9_eq (d := gf ((FF 131 d) |>.set 92 (.bool true) |>.set 93 (d 8) |>.set 94 v1 |>.set 95 v2 |>.set 96 v2 |>.set 97 v2)) call k).trans (by kernel_rfl)
theorem f5_g19_4_false (call : Handle) (k : Nat) : gOps Try.prog 0 call (opsAt (fAt Try.f5 [1,1,1,1,1,1,0,1,0,1,0])) ((opsAt (fAt Try.f5 [1,1,1,1,1,1,0,1,0,1,0])).drop 4) ((FF 131 d) |>.set 92 (.bool false)) H ((hSeq (gCode Try.prog call k (fAt Try.f5 [1,1,1,1,1,1,0,1,0,1,1])) (hSeq (gCode Try.prog call k (fAt Try.f5 [1,1,1,1,1,1,1])) (hFin Try.prog Try.f5))) .normal) =
  some [((.bool false), H)] := by
  rw [s5_30]
  rw [hSeq_n]
  rw [n5_80]
  rw [hSeq_r]
  kernel_rfl
theorem f5_g19_4_eq (call : Handle) (k : Nat) : onGrd true xg (gOps Try.prog 0 call (opsAt (fAt Try.f5 [1,1,1,1,1,1,0,1,0,1,0])) ((opsAt (fAt Try.f5 [1,1,1,1,1,1,0,1,0,1,0])).drop 4) ((FF 131 d) |>.set 92 xg) H ((hSeq (gCode Try.prog call k (fAt Try.f5 [1,1,1,1,1,1,0,1,0,1,1])) (hSeq (gCode Try.prog call k (fAt Try.f5 [1,1,1,1,1,1,1])) (hFin Try.prog Try.f5))) .normal)) =
  f5_g19_4 call k xg (d 8) H := by
  cases xg with
  | bool b => cases b with
    | true => exact onGrd_b.trans (f5_g19_4_true call k)
    | false => exact onGrd_b.trans (f5_g19_4_false call k)
  | _ => kernel_rfl
noncomputable def f5_r19 (call : Handle) (k : Nat) (x5 x8 x9 : Value) (H : GH) : M (Value × GH) :=
  onV ((oBin Try.prog .eql 27 x9 x5).filter closed) fun v1 =>
  (f5_g19_4 call k v1 x8 H)
theorem f5_r19_eq (call : Handle) (k : Nat) : gCode Try.prog call k (fAt Try.f5 [1,1,1,1,1,1,0,1,0,1,0]) (FF 131 d) H (hSeq (gCode Try.prog call k (fAt Try.f5 [1,1,1,1,1,1,0,1,0,1,1])) (hSeq (gCode Try.prog call k (fAt Try.f5 [1,1,1,1,1,1,1])) (hFin Try.prog Try.f5))) = f5_r19 call k (d 5) (d 8) (d 9) H := by
  unfold f5_r19
  rw [n5_75]
  rw [gOps_split 0 4, s5_26]
  refine onV_c fun v1 => ?_
  rw [show ((FF 131 d) |>.set 89 (d 9) |>.set 90 (d 5) |>.set 91 v1 |>.set 92 v1) = ((FF 131 (gf ((FF 131 d) |>.set 89 (d 9) |>.set 90 (d 5) |>.set 91 v1 |>.set 92 v1))) |>.set 92 v1) from by kernel_rfl]
  exact (f5_g19_4_eq (d := gf ((FF 131 d) |>.set 89 (d 9) |>.set 90 (d 5) |>.set 91 v1 |>.set 92 v1)) call k).trans (by kernel_rfl)
noncomputable def f5_g23_11 (call : Handle) (k : Nat) (x128 : Value) (H : GH) : M (Value × GH) :=
 onBool (asB x128)
  (onCall 0 call (.func (.func 22) #[] #[]) [] H fun v1 H2 =>
  some [(v1, H2)])
  (some [((.bool false), H)])
theorem f5_g23_11_true (call : Handle) (k : Nat) : gOps Try.prog 0 call (opsAt (fAt Try.f5 [1,1,1,1,1,1,1,1,1,1,0])) ((opsAt (fAt Try.f5 [1,1,1,1,1,1,1,1,1,1,0])).drop 11) ((FF 131 d) |>.set 128 (.bool true)) H ((hSeq (gCode Try.prog call k (fAt Try.f5 [1,1,1,1,1,1,1,1,1,1,1])) (hFin Try.prog Try.f5)) .normal) =
  onCall 0 call (.func (.func 22) #[] #[]) [] H fun v1 H2 =>
  some [(v1, H2)] := by
  rw [s5_38]
  refine onCall_c fun v1 H2 => ?_
  rw [hSeq_n]
  rw [n5_82]
  kernel_rfl
theorem f5_g23_11_false (call : Handle) (k : Nat) : gOps Try.prog 0 call (opsAt (fAt Try.f5 [1,1,1,1,1,1,1,1,1,1,0])) ((opsAt (fAt Try.f5 [1,1,1,1,1,1,1,1,1,1,0])).drop 11) ((FF 131 d) |>.set 128 (.bool false)) H ((hSeq (gCode Try.prog call k (fAt Try.f5 [1,1,1,1,1,1,1,1,1,1,1])) (hFin Try.prog Try.f5)) .normal) =
  some [((.bool false), H)] := by
  rw [s5_39]
  rw [hSeq_n]
  rw [n5_82]
  kernel_rfl
theorem f5_g23_11_eq (call : Handle) (k : Nat) : onGrd true xg (gOps Try.prog 0 call (opsAt (fAt Try.f5 [1,1,1,1,1,1,1,1,1,1,0])) ((opsAt (fAt Try.f5 [1,1,1,1,1,1,1,1,1,1,0])).drop 11) ((FF 131 d) |>.set 128 xg) H ((hSeq (gCode Try.prog call k (fAt Try.f5 [1,1,1,1,1,1,1,1,1,1,1])) (hFin Try.prog Try.f5)) .normal)) =
  f5_g23_11 call k xg H := by
  cases xg with
  | bool b => cases b with
    | true => exact onGrd_b.trans (f5_g23_11_true call k)
    | false => exact onGrd_b.trans (f5_g23_11_false call k)
  | _ => kernel_rfl
noncomputable def f5_g23_7 (call : Handle) (k : Nat) (x124 : Value) (x15 : Value) (H : GH) : M (Value × GH) :=
 onBool (asB x124)
  (onV ((oBin Try.prog .eql 27 x15 (.int .i64 1)).filter closed) fun v1 =>
  (f5_g23_11 call k v1 H))
  (some [((.bool false), H)])
theorem f5_g23_7_true (call : Handle) (k : Nat) : gOps Try.prog 0 call (opsAt (fAt Try.f5 [1,1,1,1,1,1,1,1,1,1,0])) ((opsAt (fAt Try.f5 [1,1,1,1,1,1,1,1,1,1,0])).drop 7) ((FF 131 d) |>.set 124 (.bool true)) H ((hSeq (gCode Try.prog call k (fAt Try.f5 [1,1,1,1,1,1,1,1,1,1,1])) (hFin Try.prog Try.f5)) .normal) =
  onV ((oBin Try.prog .eql 27 (d 15) (.int .i64 1)).filter closed) fun v1 =>
  (f5_g23_11 call k v1 H) := by
  rw [gOps_split 7 4, s5_36]
  refine onV_c fun v1 => ?_
  rw [show ((FF 131 d) |>.set 124 (.bool true) |>.set 125 (d 15) |>.set 126 v1 |>.set 127 v1 |>.set 128 v1) = ((FF 131 (gf ((FF 131 d) |>.set 124 (.bool true) |>.set 125 (d 15) |>.set 126 v1 |>.set 127 v1 |>.set 128 v1))) |>.set 128 v1) from by kernel_rfl]
  exact (f5_g23_11_eq (d := gf ((FF 131 d) |>.set 124 (.bool true) |>.set 125 (d 15) |>.set 126 v1 |>.set 127 v1 |>.set 128 v1)) call k).trans (by kernel_rfl)
theorem f5_g23_7_false (call : Handle) (k : Nat) : gOps Try.prog 0 call (opsAt (fAt Try.f5 [1,1,1,1,1,1,1,1,1,1,0])) ((opsAt (fAt Try.f5 [1,1,1,1,1,1,1,1,1,1,0])).drop 7) ((FF 131 d) |>.set 124 (.bool false)) H ((hSeq (gCode Try.prog call k (fAt Try.f5 [1,1,1,1,1,1,1,1,1,1,1])) (hFin Try.prog Try.f5)) .normal) =
  some [((.bool false), H)] := by
  rw [s5_37]
  rw [hSeq_n]
  rw [n5_82]
  kernel_rfl
theorem f5_g23_7_eq (call : Handle) (k : Nat) : onGrd true xg (gOps Try.prog 0 call (opsAt (fAt Try.f5 [1,1,1,1,1,1,1,1,1,1,0])) ((opsAt (fAt Try.f5 [1,1,1,1,1,1,1,1,1,1,0])).drop 7) ((FF 131 d) |>.set 124 xg) H ((hSeq (gCode Try.prog call k (fAt Try.f5 [1,1,1,1,1,1,1,1,1,1,1])) (hFin Try.prog Try.f5)) .normal)) =
  f5_g23_7 call k xg (d 15) H := by
  cases xg with
  | bool b => cases b with
    | true => exact onGrd_b.trans (f5_g23_7_true call k)
    | false => exact onGrd_b.trans (f5_g23_7_false call k)
  | _ => kernel_rfl
noncomputable def f5_g23_3 (call : Handle) (k : Nat) (x120 : Value) (x13 x15 : Value) (H : GH) : M (Value × GH) :=
 onBool (asB x120)
  (onV ((oBin Try.prog .eql 27 x13 (.int .i64 1)).filter closed) fun v1 =>
  (f5_g23_7 call k v1 x15 H))
  (some [((.bool false), H)])
theorem f5_g23_3_true (call : Handle) (k : Nat) : gOps Try.prog 0 call (opsAt (fAt Try.f5 [1,1,1,1,1,1,1,1,1,1,0])) ((opsAt (fAt Try.f5 [1,1,1,1,1,1,1,1,1,1,0])).drop 3) ((FF 131 d) |>.set 120 (.bool true)) H ((hSeq (gCode Try.prog call k (fAt Try.f5 [1,1,1,1,1,1,1,1,1,1,1])) (hFin Try.prog Try.f5)) .normal) =
  onV ((oBin Try.prog .eql 27 (d 13) (.int .i64 1)).filter closed) fun v1 =>
  (f5_g23_7 call k v1 (d 15) H) := by
  rw [gOps_split 3 4, s5_34]
  refine onV_c fun v1 => ?_
  rw [show ((FF 131 d) |>.set 120 (.bool true) |>.set 121 (d 13) |>.set 122 v1 |>.set 123 v1 |>.set 124 v1) = ((FF 131 (gf ((FF 131 d) |>.set 120 (.bool true) |>.set 121 (d 13) |>.set 122 v1 |>.set 123 v1 |>.set 124 v1))) |>.set 124 v1) from by kernel_rfl]
  exact (f5_g23_7_eq (d := gf ((FF 131 d) |>.set 120 (.bool true) |>.set 121 (d 13) |>.set 122 v1 |>.set 123 v1 |>.set 124 v1)) call k).trans (by kernel_rfl)
theorem f5_g23_3_false (call : Handle) (k : Nat) : gOps Try.prog 0 call (opsAt (fAt Try.f5 [1,1,1,1,1,1,1,1,1,1,0])) ((opsAt (fAt Try.f5 [1,1,1,1,1,1,1,1,1,1,0])).drop 3) ((FF 131 d) |>.set 120 (.bool false)) H ((hSeq (gCode Try.prog call k (fAt Try.f5 [1,1,1,1,1,1,1,1,1,1,1])) (hFin Try.prog Try.f5)) .normal) =
  some [((.bool false), H)] := by
  rw [s5_35]
  rw [hSeq_n]
  rw [n5_82]
  kernel_rfl
theorem f5_g23_3_eq (call : Handle) (k : Nat) : onGrd true xg (gOps Try.prog 0 call (opsAt (fAt Try.f5 [1,1,1,1,1,1,1,1,1,1,0])) ((opsAt (fAt Try.f5 [1,1,1,1,1,1,1,1,1,1,0])).drop 3) ((FF 131 d) |>.set 120 xg) H ((hSeq (gCode Try.prog call k (fAt Try.f5 [1,1,1,1,1,1,1,1,1,1,1])) (hFin Try.prog Try.f5)) .normal)) =
  f5_g23_3 call k xg (d 13) (d 15) H := by
  cases xg with
  | bool b => cases b with
    | true => exact onGrd_b.trans (f5_g23_3_true call k)
    | false => exact onGrd_b.trans (f5_g23_3_false call k)
  | _ => kernel_rfl
noncomputable def f5_r23 (call : Handle) (k : Nat) (x11 x13 x15 : Value) (H : GH) : M (Value × GH) :=
  onV ((oBin Try.prog .eql 27 x11 (.int .i64 1)).filter closed) fun v1 =>
  (f5_g23_3 call k v1 x13 x15 H)
theorem f5_r23_eq (call : Handle) (k : Nat) : gCode Try.prog call k (fAt Try.f5 [1,1,1,1,1,1,1,1,1,1,0]) (FF 131 d) H (hSeq (gCode Try.prog call k (fAt Try.f5 [1,1,1,1,1,1,1,1,1,1,1])) (hFin Try.prog Try.f5)) = f5_r23 call k (d 11) (d 13) (d 15) H := by
  unfold f5_r23
  rw [n5_81]
  rw [gOps_split 0 3, s5_31]
  refine onV_c fun v1 => ?_
  rw [show ((FF 131 d) |>.set 118 (d 11) |>.set 119 v1 |>.set 120 v1) = ((FF 131 (gf ((FF 131 d) |>.set 118 (d 11) |>.set 119 v1 |>.set 120 v1))) |>.set 120 v1) from by kernel_rfl]
  exact (f5_g23_3_eq (d := gf ((FF 131 d) |>.set 118 (d 11) |>.set 119 v1 |>.set 120 v1)) call k).trans (by kernel_rfl)
noncomputable def f5_r21 (call : Handle) (k : Nat) (x0 x11 : Value) (H : GH) : M (Value × GH) :=
  onCall 0 call (.func (.func 26) #[] #[]) [x0, (.int .u8 7), (.agg #[(.int .u8 0), (.bool false), (.slice none 0 0), (.slice none 0 0)])] H fun v1 H2 =>
  onV (oExtract v1 0) fun v3 =>
  onV (oExtract v1 1) fun v4 =>
  onCall 0 call (.func (.func 26) #[] #[]) [x0, (.int .u8 3), (.agg #[(.int .u8 2), (.bool false), (.slice none 0 0), (.slice none 0 0)])] H2 fun v5 H6 =>
  onV (oExtract v5 0) fun v7 =>
  onV (oExtract v5 1) fun v8 =>
  (f5_r23 call k x11 v4 v8 H6)
theorem f5_r21_eq (call : Handle) (k : Nat) : gCode Try.prog call k (fAt Try.f5 [1,1,1,1,1,1,1,1,0]) (FF 131 d) H (hSeq (gCode Try.prog call k (fAt Try.f5 [1,1,1,1,1,1,1,1,1])) (hFin Try.prog Try.f5)) = f5_r21 call k (d 0) (d 11) H := by
  unfold f5_r21
  rw [n5_76]
  rw [s5_27]
  refine onCall_c fun v1 H2 => ?_
  refine onV_c fun v3 => ?_
  refine onV_c fun v4 => ?_
  rw [hSeq_n]
  rw [n5_77]
  rw [n5_78]
  rw [s5_28]
  refine onCall_c fun v5 H6 => ?_
  refine onV_c fun v7 => ?_
  refine onV_c fun v8 => ?_
  rw [hSeq_n]
  rw [n5_79]
  rw [show ((FF 131 d) |>.set 107 (d 0) |>.set 108 (.agg #[(.int .u8 0), (.bool false), (.slice none 0 0), (.slice none 0 0)]) |>.set 109 v1 |>.set 106 v1 |>.set 110 v3 |>.set 111 v4 |>.set 12 v3 |>.set 13 v4 |>.set 113 (d 0) |>.set 114 (.agg #[(.int .u8 2), (.bool false), (.slice none 0 0), (.slice none 0 0)]) |>.set 115 v5 |>.set 112 v5 |>.set 116 v7 |>.set 117 v8 |>.set 14 v7 |>.set 15 v8) = (FF 131 (gf ((FF 131 d) |>.set 107 (d 0) |>.set 108 (.agg #[(.int .u8 0), (.bool false), (.slice none 0 0), (.slice none 0 0)]) |>.set 109 v1 |>.set 106 v1 |>.set 110 v3 |>.set 111 v4 |>.set 12 v3 |>.set 13 v4 |>.set 113 (d 0) |>.set 114 (.agg #[(.int .u8 2), (.bool false), (.slice none 0 0), (.slice none 0 0)]) |>.set 115 v5 |>.set 112 v5 |>.set 116 v7 |>.set 117 v8 |>.set 14 v7 |>.set 15 v8))) from by kernel_rfl]
  exact (f5_r23_eq (d := gf ((FF 131 d) |>.set 107 (d 0) |>.set 108 (.agg #[(.int .u8 0), (.bool false), (.slice none 0 0), (.slice none 0 0)]) |>.set 109 v1 |>.set 106 v1 |>.set 110 v3 |>.set 111 v4 |>.set 12 v3 |>.set 13 v4 |>.set 113 (d 0) |>.set 114 (.agg #[(.int .u8 2), (.bool false), (.slice none 0 0), (.slice none 0 0)]) |>.set 115 v5 |>.set 112 v5 |>.set 116 v7 |>.set 117 v8 |>.set 14 v7 |>.set 15 v8)) call k).trans (by kernel_rfl)
noncomputable def f5_g15_5 (call : Handle) (k : Nat) (x76 : Value) (x0 x5 x7 : Value) (H : GH) : M (Value × GH) :=
 onBool (asB x76)
  (some [((.bool false), H)])
  (onV ((oBin Try.prog .neq 27 x7 x5).filter closed) fun v1 =>
  onBool (asB v1)
  (some [((.bool false), H)])
  (onV ((oBin Try.prog .neq 27 x5 (.int .i64 0)).filter closed) fun v2 =>
  onBool (asB v2)
  (onCall 0 call (.func (.func 26) #[] #[]) [x0, (.int .u8 1), (.agg #[(.int .u8 0), (.bool true), (.slice none 0 0), (.slice none 0 0)])] H fun v3 H4 =>
  onV (oExtract v3 0) fun v5 =>
  onV (oExtract v3 1) fun v6 =>
  (f5_r19 call k x5 v5 v6 H4))
  (onCall 0 call (.func (.func 26) #[] #[]) [x0, (.int .u8 0), (.agg #[(.int .u8 0), (.bool false), (.slice none 0 0), (.slice none 0 0)])] H fun v7 H8 =>
  onV (oExtract v7 0) fun v9 =>
  onV (oExtract v7 1) fun v10 =>
  (f5_r21 call k x0 v10 H8))))
theorem f5_g15_5_true (call : Handle) (k : Nat) : gOps Try.prog 0 call (opsAt (fAt Try.f5 [1,1,1,1,1,0,0])) ((opsAt (fAt Try.f5 [1,1,1,1,1,0,0])).drop 5) ((FF 131 d) |>.set 76 (.bool true)) H ((hSeq (gCode Try.prog call k (fAt Try.f5 [1,1,1,1,1,0,1])) (hSeq (gCode Try.prog call k (fAt Try.f5 [1,1,1,1,1,1])) (hFin Try.prog Try.f5))) .normal) =
  some [((.bool false), H)] := by
  rw [s5_19]
  rw [hSeq_n]
  rw [n5_59]
  refine (onBool_tt (by kernel_rfl)).trans ?_
  rw [n5_60]
  rw [n5_61]
  rw [s5_20]
  rw [hSeq_n]
  rw [n5_62]
  rw [hSeq_r]
  kernel_rfl
theorem f5_g15_5_false (call : Handle) (k : Nat) : gOps Try.prog 0 call (opsAt (fAt Try.f5 [1,1,1,1,1,0,0])) ((opsAt (fAt Try.f5 [1,1,1,1,1,0,0])).drop 5) ((FF 131 d) |>.set 76 (.bool false)) H ((hSeq (gCode Try.prog call k (fAt Try.f5 [1,1,1,1,1,0,1])) (hSeq (gCode Try.prog call k (fAt Try.f5 [1,1,1,1,1,1])) (hFin Try.prog Try.f5))) .normal) =
  onV ((oBin Try.prog .neq 27 (d 7) (d 5)).filter closed) fun v1 =>
  onBool (asB v1)
  (some [((.bool false), H)])
  (onV ((oBin Try.prog .neq 27 (d 5) (.int .i64 0)).filter closed) fun v2 =>
  onBool (asB v2)
  (onCall 0 call (.func (.func 26) #[] #[]) [(d 0), (.int .u8 1), (.agg #[(.int .u8 0), (.bool true), (.slice none 0 0), (.slice none 0 0)])] H fun v3 H4 =>
  onV (oExtract v3 0) fun v5 =>
  onV (oExtract v3 1) fun v6 =>
  (f5_r19 call k (d 5) v5 v6 H4))
  (onCall 0 call (.func (.func 26) #[] #[]) [(d 0), (.int .u8 0), (.agg #[(.int .u8 0), (.bool false), (.slice none 0 0), (.slice none 0 0)])] H fun v7 H8 =>
  onV (oExtract v7 0) fun v9 =>
  onV (oExtract v7 1) fun v10 =>
  (f5_r21 call k (d 0) v10 H8))) := by
  rw [s5_21]
  refine onV_c fun v1 => ?_
  rw [hSeq_n]
  rw [n5_59]
  refine onBool_cc (by kernel_rfl) ?_ ?_
  · rw [n5_60]
    rw [n5_61]
    rw [s5_22]
    rw [hSeq_n]
    rw [n5_62]
    rw [hSeq_r]
    kernel_rfl
  · rw [n5_63]
    rw [hSeq_n]
    rw [n5_64]
    rw [n5_65]
    rw [n5_66]
    rw [s5_23]
    refine onV_c fun v2 => ?_
    rw [hSeq_n]
    rw [n5_67]
    refine onBool_cc (by kernel_rfl) ?_ ?_
    · rw [n5_68]
      rw [n5_69]
      rw [s5_24]
      refine onCall_c fun v3 H4 => ?_
      refine onV_c fun v5 => ?_
      refine onV_c fun v6 => ?_
      rw [hSeq_n]
      rw [n5_70]
      rw [show ((FF 131 d) |>.set 76 (.bool false) |>.set 77 (d 7) |>.set 78 (d 5) |>.set 79 v1 |>.set 80 v1 |>.set 81 (d 5) |>.set 82 v2 |>.set 84 (d 0) |>.set 85 (.agg #[(.int .u8 0), (.bool true), (.slice none 0 0), (.slice none 0 0)]) |>.set 86 v3 |>.set 83 v3 |>.set 87 v5 |>.set 88 v6 |>.set 8 v5 |>.set 9 v6) = (FF 131 (gf ((FF 131 d) |>.set 76 (.bool false) |>.set 77 (d 7) |>.set 78 (d 5) |>.set 79 v1 |>.set 80 v1 |>.set 81 (d 5) |>.set 82 v2 |>.set 84 (d 0) |>.set 85 (.agg #[(.int .u8 0), (.bool true), (.slice none 0 0), (.slice none 0 0)]) |>.set 86 v3 |>.set 83 v3 |>.set 87 v5 |>.set 88 v6 |>.set 8 v5 |>.set 9 v6))) from by kernel_rfl]
      exact (f5_r19_eq (d := gf ((FF 131 d) |>.set 76 (.bool false) |>.set 77 (d 7) |>.set 78 (d 5) |>.set 79 v1 |>.set 80 v1 |>.set 81 (d 5) |>.set 82 v2 |>.set 84 (d 0) |>.set 85 (.agg #[(.int .u8 0), (.bool true), (.slice none 0 0), (.slice none 0 0)]) |>.set 86 v3 |>.set 83 v3 |>.set 87 v5 |>.set 88 v6 |>.set 8 v5 |>.set 9 v6)) call k).trans (by kernel_rfl)
    · rw [n5_71]
      rw [hSeq_n]
      rw [n5_72]
      rw [n5_73]
      rw [s5_25]
      refine onCall_c fun v7 H8 => ?_
      refine onV_c fun v9 => ?_
      refine onV_c fun v10 => ?_
      rw [hSeq_n]
      rw [n5_74]
      rw [show ((FF 131 d) |>.set 76 (.bool false) |>.set 77 (d 7) |>.set 78 (d 5) |>.set 79 v1 |>.set 80 v1 |>.set 81 (d 5) |>.set 82 v2 |>.set 101 (d 0) |>.set 102 (.agg #[(.int .u8 0), (.bool false), (.slice none 0 0), (.slice none 0 0)]) |>.set 103 v7 |>.set 100 v7 |>.set 104 v9 |>.set 105 v10 |>.set 10 v9 |>.set 11 v10) = (FF 131 (gf ((FF 131 d) |>.set 76 (.bool false) |>.set 77 (d 7) |>.set 78 (d 5) |>.set 79 v1 |>.set 80 v1 |>.set 81 (d 5) |>.set 82 v2 |>.set 101 (d 0) |>.set 102 (.agg #[(.int .u8 0), (.bool false), (.slice none 0 0), (.slice none 0 0)]) |>.set 103 v7 |>.set 100 v7 |>.set 104 v9 |>.set 105 v10 |>.set 10 v9 |>.set 11 v10))) from by kernel_rfl]
      exact (f5_r21_eq (d := gf ((FF 131 d) |>.set 76 (.bool false) |>.set 77 (d 7) |>.set 78 (d 5) |>.set 79 v1 |>.set 80 v1 |>.set 81 (d 5) |>.set 82 v2 |>.set 101 (d 0) |>.set 102 (.agg #[(.int .u8 0), (.bool false), (.slice none 0 0), (.slice none 0 0)]) |>.set 103 v7 |>.set 100 v7 |>.set 104 v9 |>.set 105 v10 |>.set 10 v9 |>.set 11 v10)) call k).trans (by kernel_rfl)
theorem f5_g15_5_eq (call : Handle) (k : Nat) : onGrd true xg (gOps Try.prog 0 call (opsAt (fAt Try.f5 [1,1,1,1,1,0,0])) ((opsAt (fAt Try.f5 [1,1,1,1,1,0,0])).drop 5) ((FF 131 d) |>.set 76 xg) H ((hSeq (gCode Try.prog call k (fAt Try.f5 [1,1,1,1,1,0,1])) (hSeq (gCode Try.prog call k (fAt Try.f5 [1,1,1,1,1,1])) (hFin Try.prog Try.f5))) .normal)) =
  f5_g15_5 call k xg (d 0) (d 5) (d 7) H := by
  cases xg with
  | bool b => cases b with
    | true => exact onGrd_b.trans (f5_g15_5_true call k)
    | false => exact onGrd_b.trans (f5_g15_5_false call k)
  | _ => kernel_rfl
noncomputable def f5_r15 (call : Handle) (k : Nat) (x0 x5 x7 : Value) (H : GH) : M (Value × GH) :=
  onCall 0 call (.func (.func 25) #[] #[]) [x0] H fun v1 H2 =>
  onV ((oBin Try.prog .neq 27 v1 x5).filter closed) fun v3 =>
  (f5_g15_5 call k v3 x0 x5 x7 H2)
theorem f5_r15_eq (call : Handle) (k : Nat) : gCode Try.prog call k (fAt Try.f5 [1,1,1,1,1,0,0]) (FF 131 d) H (hSeq (gCode Try.prog call k (fAt Try.f5 [1,1,1,1,1,0,1])) (hSeq (gCode Try.prog call k (fAt Try.f5 [1,1,1,1,1,1])) (hFin Try.prog Try.f5))) = f5_r15 call k (d 0) (d 5) (d 7) H := by
  unfold f5_r15
  rw [n5_52]
  rw [gOps_split 0 5, s5_13]
  refine onCall_c fun v1 H2 => ?_
  refine onV_c fun v3 => ?_
  rw [show ((FF 131 d) |>.set 72 (d 0) |>.set 73 v1 |>.set 74 (d 5) |>.set 75 v3 |>.set 76 v3) = ((FF 131 (gf ((FF 131 d) |>.set 72 (d 0) |>.set 73 v1 |>.set 74 (d 5) |>.set 75 v3 |>.set 76 v3))) |>.set 76 v3) from by kernel_rfl]
  exact (f5_g15_5_eq (d := gf ((FF 131 d) |>.set 72 (d 0) |>.set 73 v1 |>.set 74 (d 5) |>.set 75 v3 |>.set 76 v3)) call k).trans (by kernel_rfl)
noncomputable def f5_r13 (call : Handle) (k : Nat) (x0 : Value) (H : GH) : M (Value × GH) :=
  onCall 0 call (.func (.func 23) #[] #[]) [x0] H fun v1 H2 =>
  onCall 0 call (.func (.func 24) #[] #[]) [x0] H2 fun v3 H4 =>
  onV (oExtract v3 0) fun v5 =>
  onV (oExtract v3 1) fun v6 =>
  (f5_r15 call k x0 v1 v6 H4)
theorem f5_r13_eq (call : Handle) (k : Nat) : gCode Try.prog call k (fAt Try.f5 [1,1,1]) (FF 131 d) H (hFin Try.prog Try.f5) = f5_r13 call k (d 0) H := by
  unfold f5_r13
  rw [n5_45]
  rw [n5_46]
  rw [s5_10]
  refine onCall_c fun v1 H2 => ?_
  rw [hSeq_n]
  rw [n5_47]
  rw [n5_48]
  rw [s5_11]
  refine onCall_c fun v3 H4 => ?_
  refine onV_c fun v5 => ?_
  refine onV_c fun v6 => ?_
  rw [hSeq_n]
  rw [n5_49]
  rw [n5_50]
  rw [show ((FF 131 d) |>.set 65 (d 0) |>.set 66 v1 |>.set 5 v1 |>.set 68 (d 0) |>.set 69 v3 |>.set 67 v3 |>.set 70 v5 |>.set 71 v6 |>.set 6 v5 |>.set 7 v6) = (FF 131 (gf ((FF 131 d) |>.set 65 (d 0) |>.set 66 v1 |>.set 5 v1 |>.set 68 (d 0) |>.set 69 v3 |>.set 67 v3 |>.set 70 v5 |>.set 71 v6 |>.set 6 v5 |>.set 7 v6))) from by kernel_rfl]
  exact (f5_r15_eq (d := gf ((FF 131 d) |>.set 65 (d 0) |>.set 66 v1 |>.set 5 v1 |>.set 68 (d 0) |>.set 69 v3 |>.set 67 v3 |>.set 70 v5 |>.set 71 v6 |>.set 6 v5 |>.set 7 v6)) call k).trans (by kernel_rfl)
noncomputable def f5_g11_11 (call : Handle) (k : Nat) (sg_l4 : Value → Value → GH → M (Value × GH)) (sg_l9 : Value → Value → Value → GH → M (Value × GH)) (x52 : Value) (x0 x3 x4 : Value) (H : GH) : M (Value × GH) :=
 onBool (asB x52)
  (onCall 0 call (.func (.func 22) #[] #[]) [] H fun v1 H2 =>
  some [(v1, H2)])
  (onV (oIndexAddr Try.prog 58 x0 x3) fun v1 =>
  onV (gLoad Try.prog 59 v1 H) fun v2 =>
  onV (oIndexAddr Try.prog 59 v2 x4) fun v3 =>
  onV (oFieldAddr Try.prog 62 v3 3) fun v4 =>
  onV (gLoad Try.prog 60 v4 H) fun v5 =>
  onV (oLen Try.prog 60 v5) fun v6 =>
  onV ((oBin Try.prog .gtr 3 v6 (.int .i64 6)).filter closed) fun v7 =>
  onBool (asB v7)
  (onCall 0 call (.func (.func 22) #[] #[]) [] H fun v8 H9 =>
  some [(v8, H9)])
  (onV ((oBin Try.prog .add 3 x4 (.int .i64 1)).filter closed) fun v10 =>
  (sg_l9 x0 x3 v10 H)))
theorem f5_g11_11_true (call : Handle) (k : Nat) (ag_l4 : GA → GH → M (Value × GH)) (sg_l4 : Value → Value → GH → M (Value × GH)) (h_l4 : f5_l4_P ag_l4 sg_l4) (ag_l9 : GA → GH → M (Value × GH)) (sg_l9 : Value → Value → Value → GH → M (Value × GH)) (h_l9 : f5_l9_P ag_l9 sg_l9) : gOps Try.prog 0 call (opsAt (fAt Try.f5 [1,1,0,1,0,0,1,0,0,1,1,0,0,1,0,0,0])) ((opsAt (fAt Try.f5 [1,1,0,1,0,0,1,0,0,1,1,0,0,1,0,0,0])).drop 11) ((FF 131 d) |>.set 52 (.bool true)) H ((hSeq (gCode Try.prog call k (fAt Try.f5 [1,1,0,1,0,0,1,0,0,1,1,0,0,1,0,0,1])) (hBlock 3 (hSeq (gCode Try.prog call k (fAt Try.f5 [1,1,0,1,0,0,1,0,0,1,1,0,0,1,1])) (hLoop ag_l9 (hBlock 2 (hBlock 1 (hSeq (gCode Try.prog call k (fAt Try.f5 [1,1,0,1,0,0,1,1])) (hLoop ag_l4 (hBlock 0 (hSeq (gCode Try.prog call k (fAt Try.f5 [1,1,1])) (hFin Try.prog Try.f5))))))))))) .normal) =
  onCall 0 call (.func (.func 22) #[] #[]) [] H fun v1 H2 =>
  some [(v1, H2)] := by
  rw [s5_14]
  rw [hSeq_n]
  rw [n5_53]
  refine (onBool_tt (by kernel_rfl)).trans ?_
  rw [n5_54]
  rw [n5_55]
  rw [s5_15]
  refine onCall_c fun v1 H2 => ?_
  rw [hSeq_n]
  rw [n5_56]
  rw [hBlock_r, hSeq_r, hLoop_r, hBlock_r, hBlock_r, hSeq_r, hLoop_r, hBlock_r, hSeq_r]
  kernel_rfl
theorem f5_g11_11_false (call : Handle) (k : Nat) (ag_l4 : GA → GH → M (Value × GH)) (sg_l4 : Value → Value → GH → M (Value × GH)) (h_l4 : f5_l4_P ag_l4 sg_l4) (ag_l9 : GA → GH → M (Value × GH)) (sg_l9 : Value → Value → Value → GH → M (Value × GH)) (h_l9 : f5_l9_P ag_l9 sg_l9) : gOps Try.prog 0 call (opsAt (fAt Try.f5 [1,1,0,1,0,0,1,0,0,1,1,0,0,1,0,0,0])) ((opsAt (fAt Try.f5 [1,1,0,1,0,0,1,0,0,1,1,0,0,1,0,0,0])).drop 11) ((FF 131 d) |>.set 52 (.bool false)) H ((hSeq (gCode Try.prog call k (fAt Try.f5 [1,1,0,1,0,0,1,0,0,1,1,0,0,1,0,0,1])) (hBlock 3 (hSeq (gCode Try.prog call k (fAt Try.f5 [1,1,0,1,0,0,1,0,0,1,1,0,0,1,1])) (hLoop ag_l9 (hBlock 2 (hBlock 1 (hSeq (gCode Try.prog call k (fAt Try.f5 [1,1,0,1,0,0,1,1])) (hLoop ag_l4 (hBlock 0 (hSeq (gCode Try.prog call k (fAt Try.f5 [1,1,1])) (hFin Try.prog Try.f5))))))))))) .normal) =
  onV (oIndexAddr Try.prog 58 (d 0) (d 3)) fun v1 =>
  onV (gLoad Try.prog 59 v1 H) fun v2 =>
  onV (oIndexAddr Try.prog 59 v2 (d 4)) fun v3 =>
  onV (oFieldAddr Try.prog 62 v3 3) fun v4 =>
  onV (gLoad Try.prog 60 v4 H) fun v5 =>
  onV (oLen Try.prog 60 v5) fun v6 =>
  onV ((oBin Try.prog .gtr 3 v6 (.int .i64 6)).filter closed) fun v7 =>
  onBool (asB v7)
  (onCall 0 call (.func (.func 22) #[] #[]) [] H fun v8 H9 =>
  some [(v8, H9)])
  (onV ((oBin Try.prog .add 3 (d 4) (.int .i64 1)).filter closed) fun v10 =>
  (sg_l9 (d 0) (d 3) v10 H)) := by
  rw [s5_16]
  refine onV_c fun v1 => ?_
  refine onV_c fun v2 => ?_
  refine onV_c fun v3 => ?_
  refine onV_c fun v4 => ?_
  refine onV_c fun v5 => ?_
  refine onV_c fun v6 => ?_
  refine onV_c fun v7 => ?_
  rw [hSeq_n]
  rw [n5_53]
  refine onBool_cc (by kernel_rfl) ?_ ?_
  · rw [n5_54]
    rw [n5_55]
    rw [s5_17]
    refine onCall_c fun v8 H9 => ?_
    rw [hSeq_n]
    rw [n5_56]
    rw [hBlock_r, hSeq_r, hLoop_r, hBlock_r, hBlock_r, hSeq_r, hLoop_r, hBlock_r, hSeq_r]
    kernel_rfl
  · rw [n5_57]
    rw [hBlock_n]
    rw [hSeq_n]
    rw [n5_58]
    rw [s5_18]
    refine onV_c fun v10 => ?_
    rw [hLoop_n]
    rw [show ((FF 131 d) |>.set 52 (.bool false) |>.set 53 (d 0) |>.set 54 (d 3) |>.set 55 v1 |>.set 56 v2 |>.set 57 (d 4) |>.set 58 v3 |>.set 59 v4 |>.set 60 v5 |>.set 61 v6 |>.set 62 v7 |>.set 63 v7 |>.set 40 (d 4) |>.set 41 v10 |>.set 4 v10) = (FF 131 (gf ((FF 131 d) |>.set 52 (.bool false) |>.set 53 (d 0) |>.set 54 (d 3) |>.set 55 v1 |>.set 56 v2 |>.set 57 (d 4) |>.set 58 v3 |>.set 59 v4 |>.set 60 v5 |>.set 61 v6 |>.set 62 v7 |>.set 63 v7 |>.set 40 (d 4) |>.set 41 v10 |>.set 4 v10))) from by kernel_rfl]
    exact (f5_l9_at (d := gf ((FF 131 d) |>.set 52 (.bool false) |>.set 53 (d 0) |>.set 54 (d 3) |>.set 55 v1 |>.set 56 v2 |>.set 57 (d 4) |>.set 58 v3 |>.set 59 v4 |>.set 60 v5 |>.set 61 v6 |>.set 62 v7 |>.set 63 v7 |>.set 40 (d 4) |>.set 41 v10 |>.set 4 v10)) h_l9).trans (by kernel_rfl)
theorem f5_g11_11_eq (call : Handle) (k : Nat) (ag_l4 : GA → GH → M (Value × GH)) (sg_l4 : Value → Value → GH → M (Value × GH)) (h_l4 : f5_l4_P ag_l4 sg_l4) (ag_l9 : GA → GH → M (Value × GH)) (sg_l9 : Value → Value → Value → GH → M (Value × GH)) (h_l9 : f5_l9_P ag_l9 sg_l9) : onGrd true xg (gOps Try.prog 0 call (opsAt (fAt Try.f5 [1,1,0,1,0,0,1,0,0,1,1,0,0,1,0,0,0])) ((opsAt (fAt Try.f5 [1,1,0,1,0,0,1,0,0,1,1,0,0,1,0,0,0])).drop 11) ((FF 131 d) |>.set 52 xg) H ((hSeq (gCode Try.prog call k (fAt Try.f5 [1,1,0,1,0,0,1,0,0,1,1,0,0,1,0,0,1])) (hBlock 3 (hSeq (gCode Try.prog call k (fAt Try.f5 [1,1,0,1,0,0,1,0,0,1,1,0,0,1,1])) (hLoop ag_l9 (hBlock 2 (hBlock 1 (hSeq (gCode Try.prog call k (fAt Try.f5 [1,1,0,1,0,0,1,1])) (hLoop ag_l4 (hBlock 0 (hSeq (gCode Try.prog call k (fAt Try.f5 [1,1,1])) (hFin Try.prog Try.f5))))))))))) .normal)) =
  f5_g11_11 call k sg_l4 sg_l9 xg (d 0) (d 3) (d 4) H := by
  cases xg with
  | bool b => cases b with
    | true => exact onGrd_b.trans (f5_g11_11_true call k ag_l4 sg_l4 h_l4 ag_l9 sg_l9 h_l9)
    | false => exact onGrd_b.trans (f5_g11_11_false call k ag_l4 sg_l4 h_l4 ag_l9 sg_l9 h_l9)
  | _ => kernel_rfl
noncomputable def f5_r11 (call : Handle) (k : Nat) (sg_l4 : Value → Value → GH → M (Value × GH)) (sg_l9 : Value → Value → Value → GH → M (Value × GH)) (x0 x3 x4 : Value) (H : GH) : M (Value × GH) :=
  onV (oIndexAddr Try.prog 58 x0 x3) fun v1 =>
  onV (gLoad Try.prog 59 v1 H) fun v2 =>
  onV (oIndexAddr Try.prog 59 v2 x4) fun v3 =>
  onV (oFieldAddr Try.prog 62 v3 2) fun v4 =>
  onV (gLoad Try.prog 26 v4 H) fun v5 =>
  onV (oLen Try.prog 26 v5) fun v6 =>
  onV ((oBin Try.prog .gtr 3 v6 (.int .i64 6)).filter closed) fun v7 =>
  (f5_g11_11 call k (sg_l4) (sg_l9) v7 x0 x3 x4 H)
theorem f5_r11_eq (call : Handle) (k : Nat) (ag_l4 : GA → GH → M (Value × GH)) (sg_l4 : Value → Value → GH → M (Value × GH)) (h_l4 : f5_l4_P ag_l4 sg_l4) (ag_l9 : GA → GH → M (Value × GH)) (sg_l9 : Value → Value → Value → GH → M (Value × GH)) (h_l9 : f5_l9_P ag_l9 sg_l9) : gCode Try.prog call k (fAt Try.f5 [1,1,0,1,0,0,1,0,0,1,1,0,0,1,0,0,0]) (FF 131 d) H (hSeq (gCode Try.prog call k (fAt Try.f5 [1,1,0,1,0,0,1,0,0,1,1,0,0,1,0,0,1])) (hBlock 3 (hSeq (gCode Try.prog call k (fAt Try.f5 [1,1,0,1,0,0,1,0,0,1,1,0,0,1,1])) (hLoop ag_l9 (hBlock 2 (hBlock 1 (hSeq (gCode Try.prog call k (fAt Try.f5 [1,1,0,1,0,0,1,1])) (hLoop ag_l4 (hBlock 0 (hSeq (gCode Try.prog call k (fAt Try.f5 [1,1,1])) (hFin Try.prog Try.f5))))))))))) = f5_r11 call k sg_l4 sg_l9 (d 0) (d 3) (d 4) H := by
  unfold f5_r11
  rw [n5_51]
  rw [gOps_split 0 11, s5_12]
  refine onV_c fun v1 => ?_
  refine onV_c fun v2 => ?_
  refine onV_c fun v3 => ?_
  refine onV_c fun v4 => ?_
  refine onV_c fun v5 => ?_
  refine onV_c fun v6 => ?_
  refine onV_c fun v7 => ?_
  rw [show ((FF 131 d) |>.set 42 (d 0) |>.set 43 (d 3) |>.set 44 v1 |>.set 45 v2 |>.set 46 (d 4) |>.set 47 v3 |>.set 48 v4 |>.set 49 v5 |>.set 50 v6 |>.set 51 v7 |>.set 52 v7) = ((FF 131 (gf ((FF 131 d) |>.set 42 (d 0) |>.set 43 (d 3) |>.set 44 v1 |>.set 45 v2 |>.set 46 (d 4) |>.set 47 v3 |>.set 48 v4 |>.set 49 v5 |>.set 50 v6 |>.set 51 v7 |>.set 52 v7))) |>.set 52 v7) from by kernel_rfl]
  exact (f5_g11_11_eq (d := gf ((FF 131 d) |>.set 42 (d 0) |>.set 43 (d 3) |>.set 44 v1 |>.set 45 v2 |>.set 46 (d 4) |>.set 47 v3 |>.set 48 v4 |>.set 49 v5 |>.set 50 v6 |>.set 51 v7 |>.set 52 v7)) call k ag_l4 sg_l4 h_l4 ag_l9 sg_l9 h_l9).trans (by kernel_rfl)
noncomputable def f5_l9b (call : Handle) (k : Nat) (sg_l4 : Value → Value → GH → M (Value × GH)) (sg_l9 : Value → Value → Value → GH → M (Value × GH)) (x0 x3 x4 : Value) (H : GH) : M (Value × GH) :=
  onV (oIndexAddr Try.prog 58 x0 x3) fun v1 =>
  onV (gLoad Try.prog 59 v1 H) fun v2 =>
  onV (oLen Try.prog 59 v2) fun v3 =>
  onV ((oBin Try.prog .lss 3 x4 v3).filter closed) fun v4 =>
  onBool (asB v4)
  ((f5_r11 call k (sg_l4) (sg_l9) x0 x3 x4 H))
  (onV ((oBin Try.prog .add 3 x3 (.int .i64 1)).filter closed) fun v5 =>
  (sg_l4 x0 v5 H))
theorem f5_l9b_eq (call : Handle) (k : Nat) (ag_l4 : GA → GH → M (Value × GH)) (sg_l4 : Value → Value → GH → M (Value × GH)) (h_l4 : f5_l4_P ag_l4 sg_l4) (ag_l9 : GA → GH → M (Value × GH)) (sg_l9 : Value → Value → Value → GH → M (Value × GH)) (h_l9 : f5_l9_P ag_l9 sg_l9) : gCode Try.prog call k (fAt Try.f5 [1,1,0,1,0,0,1,0,0,1,1,0,0]) (FF 131 d) H (hLoop ag_l9 (hBlock 2 (hBlock 1 (hSeq (gCode Try.prog call k (fAt Try.f5 [1,1,0,1,0,0,1,1])) (hLoop ag_l4 (hBlock 0 (hSeq (gCode Try.prog call k (fAt Try.f5 [1,1,1])) (hFin Try.prog Try.f5)))))))) = f5_l9b call k sg_l4 sg_l9 (d 0) (d 3) (d 4) H := by
  unfold f5_l9b
  rw [n5_35]
  rw [n5_36]
  rw [n5_37]
  rw [s5_8]
  refine onV_c fun v1 => ?_
  refine onV_c fun v2 => ?_
  refine onV_c fun v3 => ?_
  refine onV_c fun v4 => ?_
  rw [hSeq_n]
  rw [n5_38]
  refine onBool_cc (by kernel_rfl) ?_ ?_
  · rw [n5_39]
    rw [hSeq_n]
    rw [n5_40]
    rw [n5_41]
    rw [n5_42]
    rw [show ((FF 131 d) |>.set 33 (d 4) |>.set 34 (d 0) |>.set 35 (d 3) |>.set 36 v1 |>.set 37 v2 |>.set 38 v3 |>.set 39 v4) = (FF 131 (gf ((FF 131 d) |>.set 33 (d 4) |>.set 34 (d 0) |>.set 35 (d 3) |>.set 36 v1 |>.set 37 v2 |>.set 38 v3 |>.set 39 v4))) from by kernel_rfl]
    exact (f5_r11_eq (d := gf ((FF 131 d) |>.set 33 (d 4) |>.set 34 (d 0) |>.set 35 (d 3) |>.set 36 v1 |>.set 37 v2 |>.set 38 v3 |>.set 39 v4)) call k ag_l4 sg_l4 h_l4 ag_l9 sg_l9 h_l9).trans (by kernel_rfl)
  · rw [n5_43]
    rw [hSeq_e, hLoop_e, hBlock_hit]
    rw [hBlock_n]
    rw [hSeq_n]
    rw [n5_44]
    rw [s5_9]
    refine onV_c fun v5 => ?_
    rw [hLoop_n]
    rw [show ((FF 131 d) |>.set 33 (d 4) |>.set 34 (d 0) |>.set 35 (d 3) |>.set 36 v1 |>.set 37 v2 |>.set 38 v3 |>.set 39 v4 |>.set 24 (d 3) |>.set 25 v5 |>.set 3 v5) = (FF 131 (gf ((FF 131 d) |>.set 33 (d 4) |>.set 34 (d 0) |>.set 35 (d 3) |>.set 36 v1 |>.set 37 v2 |>.set 38 v3 |>.set 39 v4 |>.set 24 (d 3) |>.set 25 v5 |>.set 3 v5))) from by kernel_rfl]
    exact (f5_l4_at (d := gf ((FF 131 d) |>.set 33 (d 4) |>.set 34 (d 0) |>.set 35 (d 3) |>.set 36 v1 |>.set 37 v2 |>.set 38 v3 |>.set 39 v4 |>.set 24 (d 3) |>.set 25 v5 |>.set 3 v5)) h_l4).trans (by kernel_rfl)
noncomputable def f5_l9 (call : Handle) (k : Nat) (sg_l4 : Value → Value → GH → M (Value × GH)) : Nat → Value → Value → Value → GH → M (Value × GH)
  | 0, _, _, _, _ => none
  | r + 1, x0, x3, x4, H => f5_l9b call k sg_l4 (f5_l9 call k sg_l4 r) x0 x3 x4 H
theorem f5_l9_eq (call : Handle) (k : Nat) (ag_l4 : GA → GH → M (Value × GH)) (sg_l4 : Value → Value → GH → M (Value × GH)) (h_l4 : f5_l4_P ag_l4 sg_l4) : ∀ (r : Nat), f5_l9_P (gLoop (gCode Try.prog call k (fAt Try.f5 [1,1,0,1,0,0,1,0,0,1,1,0,0])) (hBlock 2 (hBlock 1 (hSeq (gCode Try.prog call k (fAt Try.f5 [1,1,0,1,0,0,1,1])) (hLoop ag_l4 (hBlock 0 (hSeq (gCode Try.prog call k (fAt Try.f5 [1,1,1])) (hFin Try.prog Try.f5))))))) r) (f5_l9 call k sg_l4 r) := by
  intro r
  induction r with
  | zero => unfold f5_l9_P; intros; rfl
  | succ r ih => unfold f5_l9_P; intros; exact f5_l9b_eq call k ag_l4 sg_l4 h_l4 _ _ ih
noncomputable def f5_l4b (call : Handle) (k : Nat) (sg_l4 : Value → Value → GH → M (Value × GH)) (x0 x3 : Value) (H : GH) : M (Value × GH) :=
  onV (oLen Try.prog 58 x0) fun v1 =>
  onV ((oBin Try.prog .lss 3 x3 v1).filter closed) fun v2 =>
  onBool (asB v2)
  (onV (oIndexAddr Try.prog 58 x0 x3) fun v3 =>
  onV (gLoad Try.prog 59 v3 H) fun v4 =>
  onV (oLen Try.prog 59 v4) fun v5 =>
  onV ((oBin Try.prog .gtr 3 v5 (.int .i64 12)).filter closed) fun v6 =>
  onBool (asB v6)
  (onCall 0 call (.func (.func 22) #[] #[]) [] H fun v7 H8 =>
  some [(v7, H8)])
  ((f5_l9 call k (sg_l4) k x0 x3 (.int .i64 0) H)))
  ((f5_r13 call k x0 H))
theorem f5_l4b_eq (call : Handle) (k : Nat) (ag_l4 : GA → GH → M (Value × GH)) (sg_l4 : Value → Value → GH → M (Value × GH)) (h_l4 : f5_l4_P ag_l4 sg_l4) : gCode Try.prog call k (fAt Try.f5 [1,1,0,1,0,0]) (FF 131 d) H (hLoop ag_l4 (hBlock 0 (hSeq (gCode Try.prog call k (fAt Try.f5 [1,1,1])) (hFin Try.prog Try.f5)))) = f5_l4b call k sg_l4 (d 0) (d 3) H := by
  unfold f5_l4b
  rw [n5_15]
  rw [n5_16]
  rw [n5_17]
  rw [s5_4]
  refine onV_c fun v1 => ?_
  refine onV_c fun v2 => ?_
  rw [hSeq_n]
  rw [n5_18]
  refine onBool_cc (by kernel_rfl) ?_ ?_
  · rw [n5_19]
    rw [hSeq_n]
    rw [n5_20]
    rw [n5_21]
    rw [n5_22]
    rw [n5_23]
    rw [n5_24]
    rw [s5_5]
    refine onV_c fun v3 => ?_
    refine onV_c fun v4 => ?_
    refine onV_c fun v5 => ?_
    refine onV_c fun v6 => ?_
    rw [hSeq_n]
    rw [n5_25]
    refine onBool_cc (by kernel_rfl) ?_ ?_
    · rw [n5_26]
      rw [n5_27]
      rw [s5_6]
      refine onCall_c fun v7 H8 => ?_
      rw [hSeq_n]
      rw [n5_28]
      rw [hSeq_r, hBlock_r, hSeq_r, hLoop_r, hBlock_r, hSeq_r]
      kernel_rfl
    · rw [n5_29]
      rw [hSeq_n]
      rw [n5_30]
      rw [n5_31]
      rw [s5_7]
      rw [hSeq_n]
      rw [n5_32]
      rw [n5_33]
      rw [show ((FF 131 d) |>.set 20 (d 3) |>.set 21 (d 0) |>.set 22 v1 |>.set 23 v2 |>.set 26 (d 0) |>.set 27 (d 3) |>.set 28 v3 |>.set 29 v4 |>.set 30 v5 |>.set 31 v6 |>.set 4 (.int .i64 0)) = (FF 131 (gf ((FF 131 d) |>.set 20 (d 3) |>.set 21 (d 0) |>.set 22 v1 |>.set 23 v2 |>.set 26 (d 0) |>.set 27 (d 3) |>.set 28 v3 |>.set 29 v4 |>.set 30 v5 |>.set 31 v6 |>.set 4 (.int .i64 0)))) from by kernel_rfl]
      exact (f5_l9_at (d := gf ((FF 131 d) |>.set 20 (d 3) |>.set 21 (d 0) |>.set 22 v1 |>.set 23 v2 |>.set 26 (d 0) |>.set 27 (d 3) |>.set 28 v3 |>.set 29 v4 |>.set 30 v5 |>.set 31 v6 |>.set 4 (.int .i64 0))) (f5_l9_eq call k ag_l4 sg_l4 h_l4 k)).trans (by kernel_rfl)
  · rw [n5_34]
    rw [hSeq_e, hLoop_e, hBlock_hit]
    rw [hSeq_n]
    rw [show ((FF 131 d) |>.set 20 (d 3) |>.set 21 (d 0) |>.set 22 v1 |>.set 23 v2) = (FF 131 (gf ((FF 131 d) |>.set 20 (d 3) |>.set 21 (d 0) |>.set 22 v1 |>.set 23 v2))) from by kernel_rfl]
    exact (f5_r13_eq (d := gf ((FF 131 d) |>.set 20 (d 3) |>.set 21 (d 0) |>.set 22 v1 |>.set 23 v2)) call k).trans (by kernel_rfl)
noncomputable def f5_l4 (call : Handle) (k : Nat) : Nat → Value → Value → GH → M (Value × GH)
  | 0, _, _, _ => none
  | r + 1, x0, x3, H => f5_l4b call k (f5_l4 call k r) x0 x3 H
theorem f5_l4_eq (call : Handle) (k : Nat) : ∀ (r : Nat), f5_l4_P (gLoop (gCode Try.prog call k (fAt Try.f5 [1,1,0,1,0,0])) (hBlock 0 (hSeq (gCode Try.prog call k (fAt Try.f5 [1,1,1])) (hFin Try.prog Try.f5))) r) (f5_l4 call k r) := by
  intro r
  induction r with
  | zero => unfold f5_l4_P; intros; rfl
  | succ r ih => unfold f5_l4_P; intros; exact f5_l4b_eq call k _ _ ih
noncomputable def f5_sh (call : Handle) (k : Nat) (p0 : Value) (H : GH) : M (Value × GH) :=
  onV (oLen Try.prog 58 p0) fun v1 =>
  onV ((oBin Try.prog .gtr 3 v1 (.int .i64 7)).filter closed) fun v2 =>
  onBool (asB v2)
  (onCall 0 call (.func (.func 22) #[] #[]) [] H fun v3 H4 =>
  some [(v3, H4)])
  ((f5_l4 call k k p0 (.int .i64 0) H))
theorem f5_run (call : Handle) (k : Nat) (p0 : Value) (H : GH) : gCode Try.prog call k (fAt Try.f5 []) ((FF 131 fun _ => undef) |>.set 0 p0) H (hFin Try.prog Try.f5) = f5_sh call k p0 H := by
  unfold f5_sh
  rw [n5_0]
  rw [n5_1]
  rw [s5_0]
  rw [hSeq_n]
  rw [n5_2]
  rw [n5_3]
  rw [n5_4]
  rw [s5_1]
  refine onV_c fun v1 => ?_
  refine onV_c fun v2 => ?_
  rw [hSeq_n]
  rw [n5_5]
  refine onBool_cc (by kernel_rfl) ?_ ?_
  · rw [n5_6]
    rw [n5_7]
    rw [s5_2]
    refine onCall_c fun v3 H4 => ?_
    rw [hSeq_n]
    rw [n5_8]
    rw [hSeq_r]
    kernel_rfl
  · rw [n5_9]
    rw [hSeq_n]
    rw [n5_10]
    rw [n5_11]
    rw [n5_12]
    rw [s5_3]
    rw [hSeq_n]
    rw [n5_13]
    rw [n5_14]
    rw [show ((FF 131 fun _ => undef) |>.set 0 p0 |>.set 2 (.bool false) |>.set 16 p0 |>.set 17 v1 |>.set 18 v2 |>.set 3 (.int .i64 0)) = (FF 131 (gf ((FF 131 fun _ => undef) |>.set 0 p0 |>.set 2 (.bool false) |>.set 16 p0 |>.set 17 v1 |>.set 18 v2 |>.set 3 (.int .i64 0)))) from by kernel_rfl]
    exact (f5_l4_at (d := gf ((FF 131 fun _ => undef) |>.set 0 p0 |>.set 2 (.bool false) |>.set 16 p0 |>.set 17 v1 |>.set 18 v2 |>.set 3 (.int .i64 0))) (f5_l4_eq call k k)).trans (by kernel_rfl)
theorem f5_eq (call : Handle) (k : Nat) (p0 : Value) (H : GH) : gFunc Try.prog call k Try.f5 [p0] H = f5_sh call k p0 H :=
  Eq.trans (by kernel_rfl) (f5_run call k p0 H)
end
end Go.Proofs.Ythicilkmjamefaa
