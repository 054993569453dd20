/- PRINTED by sh.py: shallow forms of functions of the program, each proved equal to what the ghost machine makes of its code. -/
import Derived.Test.YthicilkmjamefaaGkTop
import Derived.Test.YthicilkmjamefaaProg
namespace Go.Proofs.Ythicilkmjamefaa
open Go.Gh
set_option linter.unusedVariables false
set_option linter.unusedSimpArgs false
set_option maxRecDepth 100000
noncomputable def g7 {β : Type} (call : Handle) (k : Nat) (p : List Nat) : GA → GH → Kont β → M β := gCode Try.prog call k (fAt Try.f7 p)
noncomputable def o7 {β : Type} (d : Nat) (call : Handle) (p : List Nat) (i : Nat) : GA → GH → (GA → GH → M β) → M β := gOps Try.prog d call (opsAt (fAt Try.f7 p)) ((opsAt (fAt Try.f7 p)).drop i)
noncomputable def t7 {β : Type} (d : Nat) (call : Handle) (p : List Nat) (i n : Nat) : GA → GH → (GA → GH → M β) → M β := gOps Try.prog d call (opsAt (fAt Try.f7 p)) (((opsAt (fAt Try.f7 p)).drop i).take n)
theorem o7_s {β : Type} {d : Nat} {call : Handle} {p : List Nat} {a : GA} {H : GH} {K : GA → GH → M β} (i n : Nat) : o7 d call p i a H K = t7 d call p i n a H fun a H => o7 d call p (i + n) a H K := gOps_split i n
section
variable {β : Type} {call : Handle} {k : Nat} {a : GA} {K : Kont β} {K' : GA → GH → M β}
variable {d : Nat → Value} {xg : Value}
variable {p0 p1 p2 : Value}
variable {v1 v2 v3 v4 v5 v6 v7 v8 v9 : Value}
variable {H H3 H10 : GH}
theorem n7_0 : g7 call k [] a H K = g7 call k [0] a H (hSeq (g7 call k [1]) K) := at_seq (by kernel_rfl)
theorem n7_1 : g7 call k [0] a H K = o7 0 call [0] 0 a H (K .normal) := at_region (by kernel_rfl)
theorem n7_2 : g7 call k [1] a H K = g7 call k [1,0] a H (hSeq (g7 call k [1,1]) K) := at_seq (by kernel_rfl)
theorem n7_3 : g7 call k [1,0] a H K = g7 call k [1,0,0] a H (hSeq (g7 call k [1,0,1]) K) := at_seq (by kernel_rfl)
theorem n7_4 : g7 call k [1,0,0] a H K = o7 0 call [1,0,0] 0 a H (K .normal) := at_region (by kernel_rfl)
theorem n7_5 : g7 call k [1,0,1] a H K = onBool (asB (GA.eval a (.tmp 40))) (g7 call k [1,0,1,0] a H K) (g7 call k [1,0,1,1] a H K) := at_cond (by kernel_rfl)
theorem n7_6 : g7 call k [1,0,1,0] a H K = g7 call k [1,0,1,0,0] a H (hSeq (g7 call k [1,0,1,0,1]) K) := at_seq (by kernel_rfl)
theorem n7_7 : g7 call k [1,0,1,0,0] a H K = o7 0 call [1,0,1,0,0] 0 a H (K .normal) := at_region (by kernel_rfl)
theorem n7_8 : g7 call k [1,0,1,0,1] a H K = K .ret a H := at_ret (by kernel_rfl)
theorem n7_9 : g7 call k [1,0,1,1] a H K = K .normal a H := at_skip (by kernel_rfl)
theorem n7_10 : g7 call k [1,1] a H K = g7 call k [1,1,0] a H (hSeq (g7 call k [1,1,1]) K) := at_seq (by kernel_rfl)
theorem n7_11 : g7 call k [1,1,0] a H K = o7 0 call [1,1,0] 0 a H (K .normal) := at_region (by kernel_rfl)
theorem n7_12 : g7 call k [1,1,1] a H K = g7 call k [1,1,1,0] a H (hSeq (g7 call k [1,1,1,1]) K) := at_seq (by kernel_rfl)
theorem n7_13 : g7 call k [1,1,1,0] a H K = g7 call k [1,1,1,0,0] a H (hSeq (g7 call k [1,1,1,0,1]) K) := at_seq (by kernel_rfl)
theorem n7_14 : g7 call k [1,1,1,0,0] a H K = o7 0 call [1,1,1,0,0] 0 a H (K .normal) := at_region (by kernel_rfl)
theorem n7_15 : g7 call k [1,1,1,0,1] a H K = g7 call k [1,1,1,0,1,0] a H (hBlock 0 K) := at_block (by kernel_rfl)
theorem n7_16 : g7 call k [1,1,1,0,1,0] a H K = gLoop (g7 call k [1,1,1,0,1,0,0]) K k a H := at_loop (by kernel_rfl)
theorem n7_17 : g7 call k [1,1,1,0,1,0,0] a H K = g7 call k [1,1,1,0,1,0,0,0] a H (hSeq (g7 call k [1,1,1,0,1,0,0,1]) K) := at_seq (by kernel_rfl)
theorem n7_18 : g7 call k [1,1,1,0,1,0,0,0] a H K = g7 call k [1,1,1,0,1,0,0,0,0] a H (hSeq (g7 call k [1,1,1,0,1,0,0,0,1]) K) := at_seq (by kernel_rfl)
theorem n7_19 : g7 call k [1,1,1,0,1,0,0,0,0] a H K = o7 0 call [1,1,1,0,1,0,0,0,0] 0 a H (K .normal) := at_region (by kernel_rfl)
theorem n7_20 : g7 call k [1,1,1,0,1,0,0,0,1] a H K = onBool (asB (GA.eval a (.tmp 56))) (g7 call k [1,1,1,0,1,0,0,0,1,0] a H K) (g7 call k [1,1,1,0,1,0,0,0,1,1] a H K) := at_cond (by kernel_rfl)
theorem n7_21 : g7 call k [1,1,1,0,1,0,0,0,1,0] a H K = K .normal a H := at_skip (by kernel_rfl)
theorem n7_22 : g7 call k [1,1,1,0,1,0,0,1] a H K = g7 call k [1,1,1,0,1,0,0,1,0] a H (hSeq (g7 call k [1,1,1,0,1,0,0,1,1]) K) := at_seq (by kernel_rfl)
theorem n7_23 : g7 call k [1,1,1,0,1,0,0,1,0] a H K = g7 call k [1,1,1,0,1,0,0,1,0,0] a H (hBlock 1 K) := at_block (by kernel_rfl)
theorem n7_24 : g7 call k [1,1,1,0,1,0,0,1,0,0] a H K = o7 0 call [1,1,1,0,1,0,0,1,0,0] 0 a H (K .normal) := at_region (by kernel_rfl)
theorem n7_25 : g7 call k [1,1,1,0,1,0,0,0,1,1] a H K = K (.exit 0) a H := at_exit (by kernel_rfl)
theorem n7_26 : g7 call k [1,1,1,0,1,0,0,1,1] a H K = o7 0 call [1,1,1,0,1,0,0,1,1] 0 a H (K .normal) := at_region (by kernel_rfl)
theorem n7_27 : g7 call k [1,1,1,1] a H K = g7 call k [1,1,1,1,0] a H (hSeq (g7 call k [1,1,1,1,1]) K) := at_seq (by kernel_rfl)
theorem n7_28 : g7 call k [1,1,1,1,0] a H K = o7 0 call [1,1,1,1,0] 0 a H (K .normal) := at_region (by kernel_rfl)
theorem n7_29 : g7 call k [1,1,1,1,1] a H K = g7 call k [1,1,1,1,1,0] a H (hSeq (g7 call k [1,1,1,1,1,1]) K) := at_seq (by kernel_rfl)
theorem n7_30 : g7 call k [1,1,1,1,1,0] a H K = g7 call k [1,1,1,1,1,0,0] a H (hSeq (g7 call k [1,1,1,1,1,0,1]) K) := at_seq (by kernel_rfl)
theorem n7_31 : g7 call k [1,1,1,1,1,0,0] a H K = o7 0 call [1,1,1,1,1,0,0] 0 a H (K .normal) := at_region (by kernel_rfl)
theorem n7_32 : g7 call k [1,1,1,1,1,0,1] a H K = g7 call k [1,1,1,1,1,0,1,0] a H (hBlock 2 K) := at_block (by kernel_rfl)
theorem n7_33 : g7 call k [1,1,1,1,1,0,1,0] a H K = gLoop (g7 call k [1,1,1,1,1,0,1,0,0]) K k a H := at_loop (by kernel_rfl)
theorem n7_34 : g7 call k [1,1,1,1,1,0,1,0,0] a H K = g7 call k [1,1,1,1,1,0,1,0,0,0] a H (hSeq (g7 call k [1,1,1,1,1,0,1,0,0,1]) K) := at_seq (by kernel_rfl)
theorem n7_35 : g7 call k [1,1,1,1,1,0,1,0,0,0] a H K = g7 call k [1,1,1,1,1,0,1,0,0,0,0] a H (hSeq (g7 call k [1,1,1,1,1,0,1,0,0,0,1]) K) := at_seq (by kernel_rfl)
theorem n7_36 : g7 call k [1,1,1,1,1,0,1,0,0,0,0] a H K = o7 0 call [1,1,1,1,1,0,1,0,0,0,0] 0 a H (K .normal) := at_region (by kernel_rfl)
theorem n7_37 : g7 call k [1,1,1,1,1,0,1,0,0,0,1] a H K = onBool (asB (GA.eval a (.tmp 69))) (g7 call k [1,1,1,1,1,0,1,0,0,0,1,0] a H K) (g7 call k [1,1,1,1,1,0,1,0,0,0,1,1] a H K) := at_cond (by kernel_rfl)
theorem n7_38 : g7 call k [1,1,1,1,1,0,1,0,0,0,1,0] a H K = K .normal a H := at_skip (by kernel_rfl)
theorem n7_39 : g7 call k [1,1,1,1,1,0,1,0,0,1] a H K = g7 call k [1,1,1,1,1,0,1,0,0,1,0] a H (hSeq (g7 call k [1,1,1,1,1,0,1,0,0,1,1]) K) := at_seq (by kernel_rfl)
theorem n7_40 : g7 call k [1,1,1,1,1,0,1,0,0,1,0] a H K = g7 call k [1,1,1,1,1,0,1,0,0,1,0,0] a H (hBlock 3 K) := at_block (by kernel_rfl)
theorem n7_41 : g7 call k [1,1,1,1,1,0,1,0,0,1,0,0] a H K = g7 call k [1,1,1,1,1,0,1,0,0,1,0,0,0] a H (hSeq (g7 call k [1,1,1,1,1,0,1,0,0,1,0,0,1]) K) := at_seq (by kernel_rfl)
theorem n7_42 : g7 call k [1,1,1,1,1,0,1,0,0,1,0,0,0] a H K = o7 0 call [1,1,1,1,1,0,1,0,0,1,0,0,0] 0 a H (K .normal) := at_region (by kernel_rfl)
theorem n7_43 : g7 call k [1,1,1,1,1,0,1,0,0,1,0,0,1] a H K = g7 call k [1,1,1,1,1,0,1,0,0,1,0,0,1,0] a H (hSeq (g7 call k [1,1,1,1,1,0,1,0,0,1,0,0,1,1]) K) := at_seq (by kernel_rfl)
theorem n7_44 : g7 call k [1,1,1,1,1,0,1,0,0,0,1,1] a H K = K (.exit 2) a H := at_exit (by kernel_rfl)
theorem n7_45 : g7 call k [1,1,1,1,1,0,1,0,0,1,0,0,1,0] a H K = o7 0 call [1,1,1,1,1,0,1,0,0,1,0,0,1,0] 0 a H (K .normal) := at_region (by kernel_rfl)
theorem n7_46 : g7 call k [1,1,1,1,1,1] a H K = g7 call k [1,1,1,1,1,1,0] a H (hSeq (g7 call k [1,1,1,1,1,1,1]) K) := at_seq (by kernel_rfl)
theorem n7_47 : g7 call k [1,1,1,1,1,1,0] a H K = g7 call k [1,1,1,1,1,1,0,0] a H (hSeq (g7 call k [1,1,1,1,1,1,0,1]) K) := at_seq (by kernel_rfl)
theorem n7_48 : g7 call k [1,1,1,1,1,1,0,0] a H K = o7 0 call [1,1,1,1,1,1,0,0] 0 a H (K .normal) := at_region (by kernel_rfl)
theorem n7_49 : g7 call k [1,1,1,1,1,1,0,1] a H K = g7 call k [1,1,1,1,1,1,0,1,0] a H (hBlock 4 K) := at_block (by kernel_rfl)
theorem n7_50 : g7 call k [1,1,1,1,1,1,0,1,0] a H K = gLoop (g7 call k [1,1,1,1,1,1,0,1,0,0]) K k a H := at_loop (by kernel_rfl)
theorem n7_51 : g7 call k [1,1,1,1,1,0,1,0,0,1,0,0,1,1] a H K = onBool (asB (GA.eval a (.tmp 94))) (g7 call k [1,1,1,1,1,0,1,0,0,1,0,0,1,1,0] a H K) (g7 call k [1,1,1,1,1,0,1,0,0,1,0,0,1,1,1] a H K) := at_cond (by kernel_rfl)
theorem n7_52 : g7 call k [1,1,1,1,1,1,0,1,0,0] a H K = g7 call k [1,1,1,1,1,1,0,1,0,0,0] a H (hSeq (g7 call k [1,1,1,1,1,1,0,1,0,0,1]) K) := at_seq (by kernel_rfl)
theorem n7_53 : g7 call k [1,1,1,1,1,1,0,1,0,0,0] a H K = g7 call k [1,1,1,1,1,1,0,1,0,0,0,0] a H (hSeq (g7 call k [1,1,1,1,1,1,0,1,0,0,0,1]) K) := at_seq (by kernel_rfl)
theorem n7_54 : g7 call k [1,1,1,1,1,1,0,1,0,0,0,0] a H K = o7 0 call [1,1,1,1,1,1,0,1,0,0,0,0] 0 a H (K .normal) := at_region (by kernel_rfl)
theorem n7_55 : g7 call k [1,1,1,1,1,1,0,1,0,0,0,1] a H K = onBool (asB (GA.eval a (.tmp 99))) (g7 call k [1,1,1,1,1,1,0,1,0,0,0,1,0] a H K) (g7 call k [1,1,1,1,1,1,0,1,0,0,0,1,1] a H K) := at_cond (by kernel_rfl)
theorem n7_56 : g7 call k [1,1,1,1,1,1,0,1,0,0,0,1,0] a H K = K .normal a H := at_skip (by kernel_rfl)
theorem n7_57 : g7 call k [1,1,1,1,1,1,0,1,0,0,1] a H K = g7 call k [1,1,1,1,1,1,0,1,0,0,1,0] a H (hSeq (g7 call k [1,1,1,1,1,1,0,1,0,0,1,1]) K) := at_seq (by kernel_rfl)
theorem n7_58 : g7 call k [1,1,1,1,1,1,0,1,0,0,1,0] a H K = g7 call k [1,1,1,1,1,1,0,1,0,0,1,0,0] a H (hBlock 5 K) := at_block (by kernel_rfl)
theorem n7_59 : g7 call k [1,1,1,1,1,1,0,1,0,0,1,0,0] a H K = g7 call k [1,1,1,1,1,1,0,1,0,0,1,0,0,0] a H (hSeq (g7 call k [1,1,1,1,1,1,0,1,0,0,1,0,0,1]) K) := at_seq (by kernel_rfl)
theorem n7_60 : g7 call k [1,1,1,1,1,1,0,1,0,0,1,0,0,0] a H K = o7 0 call [1,1,1,1,1,1,0,1,0,0,1,0,0,0] 0 a H (K .normal) := at_region (by kernel_rfl)
theorem n7_61 : g7 call k [1,1,1,1,1,1,0,1,0,0,1,0,0,1] a H K = g7 call k [1,1,1,1,1,1,0,1,0,0,1,0,0,1,0] a H (hSeq (g7 call k [1,1,1,1,1,1,0,1,0,0,1,0,0,1,1]) K) := at_seq (by kernel_rfl)
theorem n7_62 : g7 call k [1,1,1,1,1,1,0,1,0,0,1,0,0,1,0] a H K = g7 call k [1,1,1,1,1,1,0,1,0,0,1,0,0,1,0,0] a H (hSeq (g7 call k [1,1,1,1,1,1,0,1,0,0,1,0,0,1,0,1]) K) := at_seq (by kernel_rfl)
theorem n7_63 : g7 call k [1,1,1,1,1,1,0,1,0,0,0,1,1] a H K = K (.exit 4) a H := at_exit (by kernel_rfl)
theorem n7_64 : g7 call k [1,1,1,1,1,0,1,0,0,1,0,0,1,1,0] a H K = o7 0 call [1,1,1,1,1,0,1,0,0,1,0,0,1,1,0] 0 a H (K .normal) := at_region (by kernel_rfl)
theorem n7_65 : g7 call k [1,1,1,1,1,0,1,0,0,1,1] a H K = o7 0 call [1,1,1,1,1,0,1,0,0,1,1] 0 a H (K .normal) := at_region (by kernel_rfl)
theorem n7_66 : g7 call k [1,1,1,1,1,1,0,1,0,0,1,0,0,1,0,0] a H K = o7 0 call [1,1,1,1,1,1,0,1,0,0,1,0,0,1,0,0] 0 a H (K .normal) := at_region (by kernel_rfl)
theorem n7_67 : g7 call k [1,1,1,1,1,1,1] a H K = g7 call k [1,1,1,1,1,1,1,0] a H (hSeq (g7 call k [1,1,1,1,1,1,1,1]) K) := at_seq (by kernel_rfl)
theorem n7_68 : g7 call k [1,1,1,1,1,1,1,0] a H K = g7 call k [1,1,1,1,1,1,1,0,0] a H (hSeq (g7 call k [1,1,1,1,1,1,1,0,1]) K) := at_seq (by kernel_rfl)
theorem n7_69 : g7 call k [1,1,1,1,1,1,1,0,0] a H K = o7 0 call [1,1,1,1,1,1,1,0,0] 0 a H (K .normal) := at_region (by kernel_rfl)
theorem n7_70 : g7 call k [1,1,1,1,1,1,1,0,1] a H K = g7 call k [1,1,1,1,1,1,1,0,1,0] a H (hBlock 6 K) := at_block (by kernel_rfl)
theorem n7_71 : g7 call k [1,1,1,1,1,1,1,0,1,0] a H K = gLoop (g7 call k [1,1,1,1,1,1,1,0,1,0,0]) K k a H := at_loop (by kernel_rfl)
theorem n7_72 : g7 call k [1,1,1,1,1,0,1,0,0,1,0,0,1,1,1] a H K = K .normal a H := at_skip (by kernel_rfl)
theorem n7_73 : g7 call k [1,1,1,1,1,1,0,1,0,0,1,0,0,1,0,1] a H K = onBool (asB (GA.eval a (.tmp 134))) (g7 call k [1,1,1,1,1,1,0,1,0,0,1,0,0,1,0,1,0] a H K) (g7 call k [1,1,1,1,1,1,0,1,0,0,1,0,0,1,0,1,1] a H K) := at_cond (by kernel_rfl)
theorem n7_74 : g7 call k [1,1,1,1,1,1,1,0,1,0,0] a H K = g7 call k [1,1,1,1,1,1,1,0,1,0,0,0] a H (hSeq (g7 call k [1,1,1,1,1,1,1,0,1,0,0,1]) K) := at_seq (by kernel_rfl)
theorem n7_75 : g7 call k [1,1,1,1,1,1,1,0,1,0,0,0] a H K = g7 call k [1,1,1,1,1,1,1,0,1,0,0,0,0] a H (hSeq (g7 call k [1,1,1,1,1,1,1,0,1,0,0,0,1]) K) := at_seq (by kernel_rfl)
theorem n7_76 : g7 call k [1,1,1,1,1,1,1,0,1,0,0,0,0] a H K = o7 0 call [1,1,1,1,1,1,1,0,1,0,0,0,0] 0 a H (K .normal) := at_region (by kernel_rfl)
theorem n7_77 : g7 call k [1,1,1,1,1,1,0,1,0,0,1,0,0,1,0,1,0] a H K = o7 0 call [1,1,1,1,1,1,0,1,0,0,1,0,0,1,0,1,0] 0 a H (K .normal) := at_region (by kernel_rfl)
theorem n7_78 : g7 call k [1,1,1,1,1,1,0,1,0,0,1,0,0,1,1] a H K = g7 call k [1,1,1,1,1,1,0,1,0,0,1,0,0,1,1,0] a H (hSeq (g7 call k [1,1,1,1,1,1,0,1,0,0,1,0,0,1,1,1]) K) := at_seq (by kernel_rfl)
theorem n7_79 : g7 call k [1,1,1,1,1,1,0,1,0,0,1,0,0,1,1,0] a H K = o7 1 call [1,1,1,1,1,1,0,1,0,0,1,0,0,1,1,0] 0 a H (K .normal) := at_region (by kernel_rfl)
theorem n7_80 : g7 call k [1,1,1,1,1,1,1,0,1,0,0,0,1] a H K = onBool (asB (GA.eval a (.tmp 181))) (g7 call k [1,1,1,1,1,1,1,0,1,0,0,0,1,0] a H K) (g7 call k [1,1,1,1,1,1,1,0,1,0,0,0,1,1] a H K) := at_cond (by kernel_rfl)
theorem n7_81 : g7 call k [1,1,1,1,1,1,1,0,1,0,0,0,1,0] a H K = K .normal a H := at_skip (by kernel_rfl)
theorem n7_82 : g7 call k [1,1,1,1,1,1,1,0,1,0,0,1] a H K = g7 call k [1,1,1,1,1,1,1,0,1,0,0,1,0] a H (hSeq (g7 call k [1,1,1,1,1,1,1,0,1,0,0,1,1]) K) := at_seq (by kernel_rfl)
theorem n7_83 : g7 call k [1,1,1,1,1,1,1,0,1,0,0,1,0] a H K = g7 call k [1,1,1,1,1,1,1,0,1,0,0,1,0,0] a H (hBlock 7 K) := at_block (by kernel_rfl)
theorem n7_84 : g7 call k [1,1,1,1,1,1,1,0,1,0,0,1,0,0] a H K = g7 call k [1,1,1,1,1,1,1,0,1,0,0,1,0,0,0] a H (hSeq (g7 call k [1,1,1,1,1,1,1,0,1,0,0,1,0,0,1]) K) := at_seq (by kernel_rfl)
theorem n7_85 : g7 call k [1,1,1,1,1,1,1,0,1,0,0,1,0,0,0] a H K = o7 0 call [1,1,1,1,1,1,1,0,1,0,0,1,0,0,0] 0 a H (K .normal) := at_region (by kernel_rfl)
theorem n7_86 : g7 call k [1,1,1,1,1,1,1,0,1,0,0,1,0,0,1] a H K = g7 call k [1,1,1,1,1,1,1,0,1,0,0,1,0,0,1,0] a H (hSeq (g7 call k [1,1,1,1,1,1,1,0,1,0,0,1,0,0,1,1]) K) := at_seq (by kernel_rfl)
theorem n7_87 : g7 call k [1,1,1,1,1,1,1,0,1,0,0,1,0,0,1,0] a H K = g7 call k [1,1,1,1,1,1,1,0,1,0,0,1,0,0,1,0,0] a H (hSeq (g7 call k [1,1,1,1,1,1,1,0,1,0,0,1,0,0,1,0,1]) K) := at_seq (by kernel_rfl)
theorem n7_88 : g7 call k [1,1,1,1,1,1,1,0,1,0,0,1,0,0,1,0,0] a H K = o7 0 call [1,1,1,1,1,1,1,0,1,0,0,1,0,0,1,0,0] 0 a H (K .normal) := at_region (by kernel_rfl)
theorem n7_89 : g7 call k [1,1,1,1,1,1,1,0,1,0,0,1,0,0,1,0,1] a H K = g7 call k [1,1,1,1,1,1,1,0,1,0,0,1,0,0,1,0,1,0] a H (hBlock 8 K) := at_block (by kernel_rfl)
theorem n7_90 : g7 call k [1,1,1,1,1,1,1,0,1,0,0,1,0,0,1,0,1,0] a H K = gLoop (g7 call k [1,1,1,1,1,1,1,0,1,0,0,1,0,0,1,0,1,0,0]) K k a H := at_loop (by kernel_rfl)
theorem n7_91 : g7 call k [1,1,1,1,1,1,1,0,1,0,0,0,1,1] a H K = K (.exit 6) a H := at_exit (by kernel_rfl)
theorem n7_92 : g7 call k [1,1,1,1,1,1,0,1,0,0,1,0,0,1,1,1] a H K = onBool (asB (GA.eval a (.tmp 172))) (g7 call k [1,1,1,1,1,1,0,1,0,0,1,0,0,1,1,1,0] a H K) (g7 call k [1,1,1,1,1,1,0,1,0,0,1,0,0,1,1,1,1] a H K) := at_cond (by kernel_rfl)
theorem n7_93 : g7 call k [1,1,1,1,1,1,0,1,0,0,1,0,0,1,1,1,1] a H K = K .normal a H := at_skip (by kernel_rfl)
theorem n7_94 : g7 call k [1,1,1,1,1,1,1,0,1,0,0,1,0,0,1,0,1,0,0] a H K = g7 call k [1,1,1,1,1,1,1,0,1,0,0,1,0,0,1,0,1,0,0,0] a H (hSeq (g7 call k [1,1,1,1,1,1,1,0,1,0,0,1,0,0,1,0,1,0,0,1]) K) := at_seq (by kernel_rfl)
theorem n7_95 : g7 call k [1,1,1,1,1,1,1,0,1,0,0,1,0,0,1,0,1,0,0,0] a H K = g7 call k [1,1,1,1,1,1,1,0,1,0,0,1,0,0,1,0,1,0,0,0,0] a H (hSeq (g7 call k [1,1,1,1,1,1,1,0,1,0,0,1,0,0,1,0,1,0,0,0,1]) K) := at_seq (by kernel_rfl)
theorem n7_96 : g7 call k [1,1,1,1,1,1,1,0,1,0,0,1,0,0,1,0,1,0,0,0,0] a H K = o7 0 call [1,1,1,1,1,1,1,0,1,0,0,1,0,0,1,0,1,0,0,0,0] 0 a H (K .normal) := at_region (by kernel_rfl)
theorem n7_97 : g7 call k [1,1,1,1,1,1,1,0,1,0,0,1,0,0,1,0,1,0,0,0,1] a H K = onBool (asB (GA.eval a (.tmp 188))) (g7 call k [1,1,1,1,1,1,1,0,1,0,0,1,0,0,1,0,1,0,0,0,1,0] a H K) (g7 call k [1,1,1,1,1,1,1,0,1,0,0,1,0,0,1,0,1,0,0,0,1,1] a H K) := at_cond (by kernel_rfl)
theorem n7_98 : g7 call k [1,1,1,1,1,1,1,0,1,0,0,1,0,0,1,0,1,0,0,0,1,0] a H K = K .normal a H := at_skip (by kernel_rfl)
theorem n7_99 : g7 call k [1,1,1,1,1,1,1,0,1,0,0,1,0,0,1,0,1,0,0,1] a H K = g7 call k [1,1,1,1,1,1,1,0,1,0,0,1,0,0,1,0,1,0,0,1,0] a H (hSeq (g7 call k [1,1,1,1,1,1,1,0,1,0,0,1,0,0,1,0,1,0,0,1,1]) K) := at_seq (by kernel_rfl)
theorem n7_100 : g7 call k [1,1,1,1,1,1,1,0,1,0,0,1,0,0,1,0,1,0,0,1,0] a H K = g7 call k [1,1,1,1,1,1,1,0,1,0,0,1,0,0,1,0,1,0,0,1,0,0] a H (hBlock 9 K) := at_block (by kernel_rfl)
theorem n7_101 : g7 call k [1,1,1,1,1,1,1,0,1,0,0,1,0,0,1,0,1,0,0,1,0,0] a H K = g7 call k [1,1,1,1,1,1,1,0,1,0,0,1,0,0,1,0,1,0,0,1,0,0,0] a H (hSeq (g7 call k [1,1,1,1,1,1,1,0,1,0,0,1,0,0,1,0,1,0,0,1,0,0,1]) K) := at_seq (by kernel_rfl)
theorem n7_102 : g7 call k [1,1,1,1,1,1,1,0,1,0,0,1,0,0,1,0,1,0,0,0,1,1] a H K = K (.exit 8) a H := at_exit (by kernel_rfl)
theorem n7_103 : g7 call k [1,1,1,1,1,1,1,1] a H K = g7 call k [1,1,1,1,1,1,1,1,0] a H (hSeq (g7 call k [1,1,1,1,1,1,1,1,1]) K) := at_seq (by kernel_rfl)
theorem n7_104 : g7 call k [1,1,1,1,1,1,1,1,0] a H K = g7 call k [1,1,1,1,1,1,1,1,0,0] a H (hSeq (g7 call k [1,1,1,1,1,1,1,1,0,1]) K) := at_seq (by kernel_rfl)
theorem n7_105 : g7 call k [1,1,1,1,1,1,1,1,0,0] a H K = o7 0 call [1,1,1,1,1,1,1,1,0,0] 0 a H (K .normal) := at_region (by kernel_rfl)
theorem n7_106 : g7 call k [1,1,1,1,1,1,1,1,0,1] a H K = onBool (asB (GA.eval a (.tmp 245))) (g7 call k [1,1,1,1,1,1,1,1,0,1,0] a H K) (g7 call k [1,1,1,1,1,1,1,1,0,1,1] a H K) := at_cond (by kernel_rfl)
theorem n7_107 : g7 call k [1,1,1,1,1,1,1,1,0,1,0] a H K = o7 0 call [1,1,1,1,1,1,1,1,0,1,0] 0 a H (K .normal) := at_region (by kernel_rfl)
theorem n7_108 : g7 call k [1,1,1,1,1,1,1,1,0,1,1] a H K = K .normal a H := at_skip (by kernel_rfl)
theorem n7_109 : g7 call k [1,1,1,1,1,1,0,1,0,0,1,1] a H K = o7 0 call [1,1,1,1,1,1,0,1,0,0,1,1] 0 a H (K .normal) := at_region (by kernel_rfl)
theorem n7_110 : g7 call k [1,1,1,1,1,1,1,0,1,0,0,1,0,0,1,0,1,0,0,1,0,0,0] a H K = o7 1 call [1,1,1,1,1,1,1,0,1,0,0,1,0,0,1,0,1,0,0,1,0,0,0] 0 a H (K .normal) := at_region (by kernel_rfl)
theorem n7_111 : g7 call k [1,1,1,1,1,1,1,0,1,0,0,1,0,0,1,0,1,0,0,1,0,0,1] a H K = onBool (asB (GA.eval a (.tmp 203))) (g7 call k [1,1,1,1,1,1,1,0,1,0,0,1,0,0,1,0,1,0,0,1,0,0,1,0] a H K) (g7 call k [1,1,1,1,1,1,1,0,1,0,0,1,0,0,1,0,1,0,0,1,0,0,1,1] a H K) := at_cond (by kernel_rfl)
theorem n7_112 : g7 call k [1,1,1,1,1,1,1,0,1,0,0,1,0,0,1,0,1,0,0,1,0,0,1,1] a H K = K .normal a H := at_skip (by kernel_rfl)
theorem n7_113 : g7 call k [1,1,1,1,1,1,1,0,1,0,0,1,0,0,1,1] a H K = g7 call k [1,1,1,1,1,1,1,0,1,0,0,1,0,0,1,1,0] a H (hSeq (g7 call k [1,1,1,1,1,1,1,0,1,0,0,1,0,0,1,1,1]) K) := at_seq (by kernel_rfl)
theorem n7_114 : g7 call k [1,1,1,1,1,1,1,0,1,0,0,1,0,0,1,1,0] a H K = g7 call k [1,1,1,1,1,1,1,0,1,0,0,1,0,0,1,1,0,0] a H (hSeq (g7 call k [1,1,1,1,1,1,1,0,1,0,0,1,0,0,1,1,0,1]) K) := at_seq (by kernel_rfl)
theorem n7_115 : g7 call k [1,1,1,1,1,1,1,0,1,0,0,1,0,0,1,1,0,0] a H K = o7 0 call [1,1,1,1,1,1,1,0,1,0,0,1,0,0,1,1,0,0] 0 a H (K .normal) := at_region (by kernel_rfl)
theorem n7_116 : g7 call k [1,1,1,1,1,1,1,0,1,0,0,1,0,0,1,1,0,1] a H K = g7 call k [1,1,1,1,1,1,1,0,1,0,0,1,0,0,1,1,0,1,0] a H (hBlock 10 K) := at_block (by kernel_rfl)
theorem n7_117 : g7 call k [1,1,1,1,1,1,1,0,1,0,0,1,0,0,1,1,0,1,0] a H K = gLoop (g7 call k [1,1,1,1,1,1,1,0,1,0,0,1,0,0,1,1,0,1,0,0]) K k a H := at_loop (by kernel_rfl)
theorem n7_118 : g7 call k [1,1,1,1,1,1,1,1,1] a H K = g7 call k [1,1,1,1,1,1,1,1,1,0] a H (hSeq (g7 call k [1,1,1,1,1,1,1,1,1,1]) K) := at_seq (by kernel_rfl)
theorem n7_119 : g7 call k [1,1,1,1,1,1,1,1,1,0] a H K = g7 call k [1,1,1,1,1,1,1,1,1,0,0] a H (hSeq (g7 call k [1,1,1,1,1,1,1,1,1,0,1]) K) := at_seq (by kernel_rfl)
theorem n7_120 : g7 call k [1,1,1,1,1,1,1,1,1,0,0] a H K = o7 0 call [1,1,1,1,1,1,1,1,1,0,0] 0 a H (K .normal) := at_region (by kernel_rfl)
theorem n7_121 : g7 call k [1,1,1,1,1,1,1,1,1,0,1] a H K = onBool (asB (GA.eval a (.tmp 249))) (g7 call k [1,1,1,1,1,1,1,1,1,0,1,0] a H K) (g7 call k [1,1,1,1,1,1,1,1,1,0,1,1] a H K) := at_cond (by kernel_rfl)
theorem n7_122 : g7 call k [1,1,1,1,1,1,1,1,1,0,1,0] a H K = g7 call k [1,1,1,1,1,1,1,1,1,0,1,0,0] a H (hSeq (g7 call k [1,1,1,1,1,1,1,1,1,0,1,0,1]) K) := at_seq (by kernel_rfl)
theorem n7_123 : g7 call k [1,1,1,1,1,1,1,1,1,0,1,0,0] a H K = o7 0 call [1,1,1,1,1,1,1,1,1,0,1,0,0] 0 a H (K .normal) := at_region (by kernel_rfl)
theorem n7_124 : g7 call k [1,1,1,1,1,1,1,1,1,0,1,0,1] a H K = K .ret a H := at_ret (by kernel_rfl)
theorem n7_125 : g7 call k [1,1,1,1,1,1,1,1,1,0,1,1] a H K = K .normal a H := at_skip (by kernel_rfl)
theorem n7_126 : g7 call k [1,1,1,1,1,1,1,1,1,1] a H K = g7 call k [1,1,1,1,1,1,1,1,1,1,0] a H (hSeq (g7 call k [1,1,1,1,1,1,1,1,1,1,1]) K) := at_seq (by kernel_rfl)
theorem n7_127 : g7 call k [1,1,1,1,1,1,1,1,1,1,0] a H K = o7 0 call [1,1,1,1,1,1,1,1,1,1,0] 0 a H (K .normal) := at_region (by kernel_rfl)
theorem n7_128 : g7 call k [1,1,1,1,1,1,1,1,1,1,1] a H K = g7 call k [1,1,1,1,1,1,1,1,1,1,1,0] a H (hSeq (g7 call k [1,1,1,1,1,1,1,1,1,1,1,1]) K) := at_seq (by kernel_rfl)
theorem n7_129 : g7 call k [1,1,1,1,1,1,0,1,0,0,1,0,0,1,1,1,0] a H K = o7 0 call [1,1,1,1,1,1,0,1,0,0,1,0,0,1,1,1,0] 0 a H (K .normal) := at_region (by kernel_rfl)
theorem n7_130 : g7 call k [1,1,1,1,1,1,0,1,0,0,1,0,0,1,0,1,1] a H K = K .normal a H := at_skip (by kernel_rfl)
theorem n7_131 : g7 call k [1,1,1,1,1,1,1,0,1,0,0,1,0,0,1,0,1,0,0,1,0,0,1,0] a H K = o7 0 call [1,1,1,1,1,1,1,0,1,0,0,1,0,0,1,0,1,0,0,1,0,0,1,0] 0 a H (K .normal) := at_region (by kernel_rfl)
theorem n7_132 : g7 call k [1,1,1,1,1,1,1,0,1,0,0,1,0,0,1,0,1,0,0,1,1] a H K = o7 0 call [1,1,1,1,1,1,1,0,1,0,0,1,0,0,1,0,1,0,0,1,1] 0 a H (K .normal) := at_region (by kernel_rfl)
theorem n7_133 : g7 call k [1,1,1,1,1,1,1,0,1,0,0,1,0,0,1,1,0,1,0,0] a H K = g7 call k [1,1,1,1,1,1,1,0,1,0,0,1,0,0,1,1,0,1,0,0,0] a H (hSeq (g7 call k [1,1,1,1,1,1,1,0,1,0,0,1,0,0,1,1,0,1,0,0,1]) K) := at_seq (by kernel_rfl)
theorem n7_134 : g7 call k [1,1,1,1,1,1,1,0,1,0,0,1,0,0,1,1,0,1,0,0,0] a H K = g7 call k [1,1,1,1,1,1,1,0,1,0,0,1,0,0,1,1,0,1,0,0,0,0] a H (hSeq (g7 call k [1,1,1,1,1,1,1,0,1,0,0,1,0,0,1,1,0,1,0,0,0,1]) K) := at_seq (by kernel_rfl)
theorem n7_135 : g7 call k [1,1,1,1,1,1,1,0,1,0,0,1,0,0,1,1,0,1,0,0,0,0] a H K = o7 0 call [1,1,1,1,1,1,1,0,1,0,0,1,0,0,1,1,0,1,0,0,0,0] 0 a H (K .normal) := at_region (by kernel_rfl)
theorem n7_136 : g7 call k [1,1,1,1,1,1,1,0,1,0,0,1,0,0,1,1,0,1,0,0,0,1] a H K = onBool (asB (GA.eval a (.tmp 216))) (g7 call k [1,1,1,1,1,1,1,0,1,0,0,1,0,0,1,1,0,1,0,0,0,1,0] a H K) (g7 call k [1,1,1,1,1,1,1,0,1,0,0,1,0,0,1,1,0,1,0,0,0,1,1] a H K) := at_cond (by kernel_rfl)
theorem n7_137 : g7 call k [1,1,1,1,1,1,1,0,1,0,0,1,0,0,1,1,0,1,0,0,0,1,0] a H K = K .normal a H := at_skip (by kernel_rfl)
theorem n7_138 : g7 call k [1,1,1,1,1,1,1,0,1,0,0,1,0,0,1,1,0,1,0,0,1] a H K = g7 call k [1,1,1,1,1,1,1,0,1,0,0,1,0,0,1,1,0,1,0,0,1,0] a H (hSeq (g7 call k [1,1,1,1,1,1,1,0,1,0,0,1,0,0,1,1,0,1,0,0,1,1]) K) := at_seq (by kernel_rfl)
theorem n7_139 : g7 call k [1,1,1,1,1,1,1,0,1,0,0,1,0,0,1,1,0,1,0,0,1,0] a H K = g7 call k [1,1,1,1,1,1,1,0,1,0,0,1,0,0,1,1,0,1,0,0,1,0,0] a H (hBlock 11 K) := at_block (by kernel_rfl)
theorem n7_140 : g7 call k [1,1,1,1,1,1,1,0,1,0,0,1,0,0,1,1,0,1,0,0,1,0,0] a H K = g7 call k [1,1,1,1,1,1,1,0,1,0,0,1,0,0,1,1,0,1,0,0,1,0,0,0] a H (hSeq (g7 call k [1,1,1,1,1,1,1,0,1,0,0,1,0,0,1,1,0,1,0,0,1,0,0,1]) K) := at_seq (by kernel_rfl)
theorem n7_141 : g7 call k [1,1,1,1,1,1,1,0,1,0,0,1,0,0,1,1,0,1,0,0,0,1,1] a H K = K (.exit 10) a H := at_exit (by kernel_rfl)
theorem n7_142 : g7 call k [1,1,1,1,1,1,1,1,1,1,1,0] a H K = o7 0 call [1,1,1,1,1,1,1,1,1,1,1,0] 0 a H (K .normal) := at_region (by kernel_rfl)
theorem n7_143 : g7 call k [1,1,1,1,1,1,1,0,1,0,0,1,0,0,1,1,0,1,0,0,1,0,0,0] a H K = o7 1 call [1,1,1,1,1,1,1,0,1,0,0,1,0,0,1,1,0,1,0,0,1,0,0,0] 0 a H (K .normal) := at_region (by kernel_rfl)
theorem n7_144 : g7 call k [1,1,1,1,1,1,1,0,1,0,0,1,0,0,1,1,0,1,0,0,1,0,0,1] a H K = onBool (asB (GA.eval a (.tmp 231))) (g7 call k [1,1,1,1,1,1,1,0,1,0,0,1,0,0,1,1,0,1,0,0,1,0,0,1,0] a H K) (g7 call k [1,1,1,1,1,1,1,0,1,0,0,1,0,0,1,1,0,1,0,0,1,0,0,1,1] a H K) := at_cond (by kernel_rfl)
theorem n7_145 : g7 call k [1,1,1,1,1,1,1,0,1,0,0,1,0,0,1,1,0,1,0,0,1,0,0,1,1] a H K = K .normal a H := at_skip (by kernel_rfl)
theorem n7_146 : g7 call k [1,1,1,1,1,1,1,0,1,0,0,1,0,0,1,1,1] a H K = g7 call k [1,1,1,1,1,1,1,0,1,0,0,1,0,0,1,1,1,0] a H (hSeq (g7 call k [1,1,1,1,1,1,1,0,1,0,0,1,0,0,1,1,1,1]) K) := at_seq (by kernel_rfl)
theorem n7_147 : g7 call k [1,1,1,1,1,1,1,0,1,0,0,1,0,0,1,1,1,0] a H K = o7 0 call [1,1,1,1,1,1,1,0,1,0,0,1,0,0,1,1,1,0] 0 a H (K .normal) := at_region (by kernel_rfl)
theorem n7_148 : g7 call k [1,1,1,1,1,1,1,0,1,0,0,1,0,0,1,1,1,1] a H K = onBool (asB (GA.eval a (.tmp 241))) (g7 call k [1,1,1,1,1,1,1,0,1,0,0,1,0,0,1,1,1,1,0] a H K) (g7 call k [1,1,1,1,1,1,1,0,1,0,0,1,0,0,1,1,1,1,1] a H K) := at_cond (by kernel_rfl)
theorem n7_149 : g7 call k [1,1,1,1,1,1,1,0,1,0,0,1,0,0,1,1,1,1,0] a H K = o7 0 call [1,1,1,1,1,1,1,0,1,0,0,1,0,0,1,1,1,1,0] 0 a H (K .normal) := at_region (by kernel_rfl)
theorem n7_150 : g7 call k [1,1,1,1,1,1,1,0,1,0,0,1,1] a H K = o7 0 call [1,1,1,1,1,1,1,0,1,0,0,1,1] 0 a H (K .normal) := at_region (by kernel_rfl)
theorem n7_151 : g7 call k [1,1,1,1,1,1,1,0,1,0,0,1,0,0,1,1,1,1,1] a H K = K .normal a H := at_skip (by kernel_rfl)
theorem n7_152 : g7 call k [1,1,1,1,1,1,1,1,1,1,1,1] a H K = g7 call k [1,1,1,1,1,1,1,1,1,1,1,1,0] a H (hSeq (g7 call k [1,1,1,1,1,1,1,1,1,1,1,1,1]) K) := at_seq (by kernel_rfl)
theorem n7_153 : g7 call k [1,1,1,1,1,1,1,0,1,0,0,1,0,0,1,1,0,1,0,0,1,0,0,1,0] a H K = o7 0 call [1,1,1,1,1,1,1,0,1,0,0,1,0,0,1,1,0,1,0,0,1,0,0,1,0] 0 a H (K .normal) := at_region (by kernel_rfl)
theorem n7_154 : g7 call k [1,1,1,1,1,1,1,0,1,0,0,1,0,0,1,1,0,1,0,0,1,1] a H K = o7 0 call [1,1,1,1,1,1,1,0,1,0,0,1,0,0,1,1,0,1,0,0,1,1] 0 a H (K .normal) := at_region (by kernel_rfl)
theorem n7_155 : g7 call k [1,1,1,1,1,1,1,1,1,1,1,1,0] a H K = o7 0 call [1,1,1,1,1,1,1,1,1,1,1,1,0] 0 a H (K .normal) := at_region (by kernel_rfl)
theorem n7_156 : g7 call k [1,1,1,1,1,1,1,1,1,1,1,1,1] a H K = g7 call k [1,1,1,1,1,1,1,1,1,1,1,1,1,0] a H (hSeq (g7 call k [1,1,1,1,1,1,1,1,1,1,1,1,1,1]) K) := at_seq (by kernel_rfl)
theorem n7_157 : g7 call k [1,1,1,1,1,1,1,1,1,1,1,1,1,0] a H K = o7 0 call [1,1,1,1,1,1,1,1,1,1,1,1,1,0] 0 a H (K .normal) := at_region (by kernel_rfl)
theorem n7_158 : g7 call k [1,1,1,1,1,1,1,1,1,1,1,1,1,1] a H K = g7 call k [1,1,1,1,1,1,1,1,1,1,1,1,1,1,0] a H (hSeq (g7 call k [1,1,1,1,1,1,1,1,1,1,1,1,1,1,1]) K) := at_seq (by kernel_rfl)
theorem n7_159 : g7 call k [1,1,1,1,1,1,1,1,1,1,1,1,1,1,0] a H K = o7 0 call [1,1,1,1,1,1,1,1,1,1,1,1,1,1,0] 0 a H (K .normal) := at_region (by kernel_rfl)
theorem n7_160 : g7 call k [1,1,1,1,1,1,1,1,1,1,1,1,1,1,1] a H K = g7 call k [1,1,1,1,1,1,1,1,1,1,1,1,1,1,1,0] a H (hSeq (g7 call k [1,1,1,1,1,1,1,1,1,1,1,1,1,1,1,1]) K) := at_seq (by kernel_rfl)
theorem n7_161 : g7 call k [1,1,1,1,1,1,1,1,1,1,1,1,1,1,1,0] a H K = o7 0 call [1,1,1,1,1,1,1,1,1,1,1,1,1,1,1,0] 0 a H (K .normal) := at_region (by kernel_rfl)
theorem n7_162 : g7 call k [1,1,1,1,1,1,1,1,1,1,1,1,1,1,1,1] a H K = g7 call k [1,1,1,1,1,1,1,1,1,1,1,1,1,1,1,1,0] a H (hSeq (g7 call k [1,1,1,1,1,1,1,1,1,1,1,1,1,1,1,1,1]) K) := at_seq (by kernel_rfl)
theorem n7_163 : g7 call k [1,1,1,1,1,1,1,1,1,1,1,1,1,1,1,1,0] a H K = g7 call k [1,1,1,1,1,1,1,1,1,1,1,1,1,1,1,1,0,0] a H (hSeq (g7 call k [1,1,1,1,1,1,1,1,1,1,1,1,1,1,1,1,0,1]) K) := at_seq (by kernel_rfl)
theorem n7_164 : g7 call k [1,1,1,1,1,1,1,1,1,1,1,1,1,1,1,1,0,0] a H K = o7 0 call [1,1,1,1,1,1,1,1,1,1,1,1,1,1,1,1,0,0] 0 a H (K .normal) := at_region (by kernel_rfl)
theorem n7_165 : g7 call k [1,1,1,1,1,1,1,1,1,1,1,1,1,1,1,1,0,1] a H K = onBool (asB (GA.eval a (.tmp 306))) (g7 call k [1,1,1,1,1,1,1,1,1,1,1,1,1,1,1,1,0,1,0] a H K) (g7 call k [1,1,1,1,1,1,1,1,1,1,1,1,1,1,1,1,0,1,1] a H K) := at_cond (by kernel_rfl)
theorem n7_166 : g7 call k [1,1,1,1,1,1,1,1,1,1,1,1,1,1,1,1,0,1,0] a H K = g7 call k [1,1,1,1,1,1,1,1,1,1,1,1,1,1,1,1,0,1,0,0] a H (hSeq (g7 call k [1,1,1,1,1,1,1,1,1,1,1,1,1,1,1,1,0,1,0,1]) K) := at_seq (by kernel_rfl)
theorem n7_167 : g7 call k [1,1,1,1,1,1,1,1,1,1,1,1,1,1,1,1,0,1,1] a H K = K .normal a H := at_skip (by kernel_rfl)
theorem n7_168 : g7 call k [1,1,1,1,1,1,1,1,1,1,1,1,1,1,1,1,1] a H K = g7 call k [1,1,1,1,1,1,1,1,1,1,1,1,1,1,1,1,1,0] a H (hSeq (g7 call k [1,1,1,1,1,1,1,1,1,1,1,1,1,1,1,1,1,1]) K) := at_seq (by kernel_rfl)
theorem n7_169 : g7 call k [1,1,1,1,1,1,1,1,1,1,1,1,1,1,1,1,1,0] a H K = g7 call k [1,1,1,1,1,1,1,1,1,1,1,1,1,1,1,1,1,0,0] a H (hSeq (g7 call k [1,1,1,1,1,1,1,1,1,1,1,1,1,1,1,1,1,0,1]) K) := at_seq (by kernel_rfl)
theorem n7_170 : g7 call k [1,1,1,1,1,1,1,1,1,1,1,1,1,1,1,1,1,0,0] a H K = o7 0 call [1,1,1,1,1,1,1,1,1,1,1,1,1,1,1,1,1,0,0] 0 a H (K .normal) := at_region (by kernel_rfl)
theorem n7_171 : g7 call k [1,1,1,1,1,1,1,1,1,1,1,1,1,1,1,1,1,0,1] a H K = onBool (asB (GA.eval a (.tmp 358))) (g7 call k [1,1,1,1,1,1,1,1,1,1,1,1,1,1,1,1,1,0,1,0] a H K) (g7 call k [1,1,1,1,1,1,1,1,1,1,1,1,1,1,1,1,1,0,1,1] a H K) := at_cond (by kernel_rfl)
theorem n7_172 : g7 call k [1,1,1,1,1,1,1,1,1,1,1,1,1,1,1,1,1,0,1,0] a H K = g7 call k [1,1,1,1,1,1,1,1,1,1,1,1,1,1,1,1,1,0,1,0,0] a H (hSeq (g7 call k [1,1,1,1,1,1,1,1,1,1,1,1,1,1,1,1,1,0,1,0,1]) K) := at_seq (by kernel_rfl)
theorem n7_173 : g7 call k [1,1,1,1,1,1,1,1,1,1,1,1,1,1,1,1,1,0,1,1] a H K = K .normal a H := at_skip (by kernel_rfl)
theorem n7_174 : g7 call k [1,1,1,1,1,1,1,1,1,1,1,1,1,1,1,1,1,1] a H K = g7 call k [1,1,1,1,1,1,1,1,1,1,1,1,1,1,1,1,1,1,0] a H (hSeq (g7 call k [1,1,1,1,1,1,1,1,1,1,1,1,1,1,1,1,1,1,1]) K) := at_seq (by kernel_rfl)
theorem n7_175 : g7 call k [1,1,1,1,1,1,1,1,1,1,1,1,1,1,1,1,1,1,0] a H K = o7 0 call [1,1,1,1,1,1,1,1,1,1,1,1,1,1,1,1,1,1,0] 0 a H (K .normal) := at_region (by kernel_rfl)
theorem n7_176 : g7 call k [1,1,1,1,1,1,1,1,1,1,1,1,1,1,1,1,1,1,1] a H K = g7 call k [1,1,1,1,1,1,1,1,1,1,1,1,1,1,1,1,1,1,1,0] a H (hSeq (g7 call k [1,1,1,1,1,1,1,1,1,1,1,1,1,1,1,1,1,1,1,1]) K) := at_seq (by kernel_rfl)
theorem n7_177 : g7 call k [1,1,1,1,1,1,1,1,1,1,1,1,1,1,1,1,1,1,1,0] a H K = g7 call k [1,1,1,1,1,1,1,1,1,1,1,1,1,1,1,1,1,1,1,0,0] a H (hSeq (g7 call k [1,1,1,1,1,1,1,1,1,1,1,1,1,1,1,1,1,1,1,0,1]) K) := at_seq (by kernel_rfl)
theorem n7_178 : g7 call k [1,1,1,1,1,1,1,1,1,1,1,1,1,1,1,1,1,1,1,0,0] a H K = o7 0 call [1,1,1,1,1,1,1,1,1,1,1,1,1,1,1,1,1,1,1,0,0] 0 a H (K .normal) := at_region (by kernel_rfl)
theorem n7_179 : g7 call k [1,1,1,1,1,1,1,1,1,1,1,1,1,1,1,1,1,1,1,0,1] a H K = onBool (asB (GA.eval a (.tmp 375))) (g7 call k [1,1,1,1,1,1,1,1,1,1,1,1,1,1,1,1,1,1,1,0,1,0] a H K) (g7 call k [1,1,1,1,1,1,1,1,1,1,1,1,1,1,1,1,1,1,1,0,1,1] a H K) := at_cond (by kernel_rfl)
theorem n7_180 : g7 call k [1,1,1,1,1,1,1,1,1,1,1,1,1,1,1,1,1,1,1,0,1,0] a H K = o7 0 call [1,1,1,1,1,1,1,1,1,1,1,1,1,1,1,1,1,1,1,0,1,0] 0 a H (K .normal) := at_region (by kernel_rfl)
theorem n7_181 : g7 call k [1,1,1,1,1,1,1,1,1,1,1,1,1,1,1,1,1,1,1,0,1,1] a H K = K .normal a H := at_skip (by kernel_rfl)
theorem n7_182 : g7 call k [1,1,1,1,1,1,1,1,1,1,1,1,1,1,1,1,0,1,0,0] a H K = o7 0 call [1,1,1,1,1,1,1,1,1,1,1,1,1,1,1,1,0,1,0,0] 0 a H (K .normal) := at_region (by kernel_rfl)
theorem n7_183 : g7 call k [1,1,1,1,1,1,1,1,1,1,1,1,1,1,1,1,1,0,1,0,0] a H K = o7 0 call [1,1,1,1,1,1,1,1,1,1,1,1,1,1,1,1,1,0,1,0,0] 0 a H (K .normal) := at_region (by kernel_rfl)
theorem n7_184 : g7 call k [1,1,1,1,1,1,1,1,1,1,1,1,1,1,1,1,1,1,1,1] a H K = g7 call k [1,1,1,1,1,1,1,1,1,1,1,1,1,1,1,1,1,1,1,1,0] a H (hSeq (g7 call k [1,1,1,1,1,1,1,1,1,1,1,1,1,1,1,1,1,1,1,1,1]) K) := at_seq (by kernel_rfl)
theorem n7_185 : g7 call k [1,1,1,1,1,1,1,1,1,1,1,1,1,1,1,1,1,1,1,1,0] a H K = o7 0 call [1,1,1,1,1,1,1,1,1,1,1,1,1,1,1,1,1,1,1,1,0] 0 a H (K .normal) := at_region (by kernel_rfl)
theorem n7_186 : g7 call k [1,1,1,1,1,1,1,1,1,1,1,1,1,1,1,1,0,1,0,1] a H K = K .ret a H := at_ret (by kernel_rfl)
theorem n7_187 : g7 call k [1,1,1,1,1,1,1,1,1,1,1,1,1,1,1,1,1,0,1,0,1] a H K = K .ret a H := at_ret (by kernel_rfl)
theorem n7_188 : g7 call k [1,1,1,1,1,1,1,1,1,1,1,1,1,1,1,1,1,1,1,1,1] a H K = g7 call k [1,1,1,1,1,1,1,1,1,1,1,1,1,1,1,1,1,1,1,1,1,0] a H (hSeq (g7 call k [1,1,1,1,1,1,1,1,1,1,1,1,1,1,1,1,1,1,1,1,1,1]) K) := at_seq (by kernel_rfl)
theorem n7_189 : g7 call k [1,1,1,1,1,1,1,1,1,1,1,1,1,1,1,1,1,1,1,1,1,0] a H K = o7 0 call [1,1,1,1,1,1,1,1,1,1,1,1,1,1,1,1,1,1,1,1,1,0] 0 a H (K .normal) := at_region (by kernel_rfl)
theorem n7_190 : g7 call k [1,1,1,1,1,1,1,1,1,1,1,1,1,1,1,1,1,1,1,1,1,1] a H K = K .ret a H := at_ret (by kernel_rfl)
theorem s7_0 : o7 0 call [0] 0 (FG 412 (fun _ => undef) [(2, p2), (1, p1), (0, p0)]) H K' =
  K' (FG 412 (fun _ => undef) [(6, (.bool false)), (5, (.pointer (some ⟨(GH.push H (.row (Value.cells p0).toList 88 false)).n, 0, none⟩))), (3, (.pointer (some ⟨H.n, 0, none⟩))), (2, p2), (1, p1), (0, p0)]) (GH.push (GH.push H (.row (Value.cells p0).toList 88 false)) (.row (Value.cells p2).toList 91 false)) := by kernel_rfl
theorem s7_1 : t7 0 call [1,0,0] 0 5 (FG 412 (fun _ => undef) [(6, (.bool false)), (5, (.pointer (some ⟨(GH.push H (.row (Value.cells p0).toList 88 false)).n, 0, none⟩))), (3, (.pointer (some ⟨H.n, 0, none⟩))), (2, p2), (1, p1), (0, p0)]) (GH.push (GH.push H (.row (Value.cells p0).toList 88 false)) (.row (Value.cells p2).toList 91 false)) K' =
  onV (gLoad Try.prog 85 (.pointer (some ⟨H.n, 0, none⟩)) (GH.push (GH.push H (.row (Value.cells p0).toList 88 false)) (.row (Value.cells p2).toList 91 false))) fun v1 =>
  onV (oLen Try.prog 85 v1) fun v2 =>
  onV ((oBin Try.prog .gtr 3 v2 (.int .i64 12)).filter closed) fun v3 =>
  onGrd true v3 (K' (FG 412 (fun _ => undef) [(35, v3), (34, v3), (33, v2), (32, v1), (31, (.pointer (some ⟨H.n, 0, none⟩))), (6, (.bool false)), (5, (.pointer (some ⟨(GH.push H (.row (Value.cells p0).toList 88 false)).n, 0, none⟩))), (3, (.pointer (some ⟨H.n, 0, none⟩))), (2, p2), (1, p1), (0, p0)]) (GH.push (GH.push H (.row (Value.cells p0).toList 88 false)) (.row (Value.cells p2).toList 91 false))) := by kernel_rfl
theorem s7_2 : o7 0 call [1,0,0] 5 (FG 412 d [(35, (.bool true))]) H K' =
  K' (FG 412 d [(40, (.bool true)), (39, undef), (38, undef), (37, undef), (36, undef), (35, (.bool true))]) H := by kernel_rfl
theorem s7_3 : o7 0 call [1,0,1,0,0] 0 (FG 412 d [(40, (.bool true)), (39, undef), (38, undef), (37, undef), (36, undef), (35, (.bool true))]) H K' =
  onCall 0 call (.func (.func 33) #[] #[]) [] H fun v1 H2 =>
  K' (FG 412 d [(6, v1), (41, v1), (40, (.bool true)), (39, undef), (38, undef), (37, undef), (36, undef), (35, (.bool true))]) H2 := by kernel_rfl
theorem s7_4 : o7 0 call [1,0,0] 5 (FG 412 d [(35, (.bool false))]) H K' =
  onV (oFieldAddr Try.prog 88 (d 3) 1) fun v1 =>
  onV (gLoad Try.prog 86 v1 H) fun v2 =>
  onV (oLen Try.prog 86 v2) fun v3 =>
  onV ((oBin Try.prog .gtr 3 v3 (.int .i64 12)).filter closed) fun v4 =>
  K' (FG 412 d [(40, v4), (39, v4), (38, v3), (37, v2), (36, v1), (35, (.bool false))]) H := by kernel_rfl
theorem s7_5 : o7 0 call [1,0,1,0,0] 0 (FG 412 d [(40, v4), (39, v4), (38, v3), (37, v2), (36, v1), (35, (.bool false))]) H K' =
  onCall 0 call (.func (.func 33) #[] #[]) [] H fun v5 H6 =>
  K' (FG 412 d [(6, v5), (41, v5), (40, v4), (39, v4), (38, v3), (37, v2), (36, v1), (35, (.bool false))]) H6 := by kernel_rfl
theorem s7_6 : o7 0 call [1,1,0] 0 (FG 412 d [(40, v4), (39, v4), (38, v3), (37, v2), (36, v1), (35, (.bool false))]) H K' =
  onV (oFieldAddr Try.prog 88 (d 3) 1) fun v7 =>
  onV (gLoad Try.prog 86 v7 H) fun v8 =>
  onV (oBuild Try.prog 88 [(1, v8)]) fun v9 =>
  onH (gStore Try.prog 88 (.pointer (some ⟨H.n, 0, none⟩)) v9 (GH.push H (.row [(.slice none 0 0), (.slice none 0 0)] 88 false))) fun H10 =>
  K' (FG 412 d [(7, (.pointer (some ⟨H.n, 0, none⟩))), (44, v9), (43, v8), (42, v7), (40, v4), (39, v4), (38, v3), (37, v2), (36, v1), (35, (.bool false))]) H10 := by kernel_rfl
theorem s7_7 : o7 0 call [1,1,1,0,0] 0 (FG 412 d [(7, (.pointer (some ⟨H.n, 0, none⟩))), (44, v9), (43, v8), (42, v7), (40, v4), (39, v4), (38, v3), (37, v2), (36, v1), (35, (.bool false))]) H10 K' =
  K' (FG 412 d [(8, (.int .i64 0)), (7, (.pointer (some ⟨H.n, 0, none⟩))), (44, v9), (43, v8), (42, v7), (40, v4), (39, v4), (38, v3), (37, v2), (36, v1), (35, (.bool false))]) H10 := by kernel_rfl
theorem s7_8 : t7 0 call [1,1,1,0,1,0,0,0,0] 0 7 (FF 412 d) H K' =
  onV ((oBin Try.prog .rem 89 (d 1) (.int .u16 60)).filter closed) fun v1 =>
  onV ((oConvert Try.prog 89 3 v1).filter closed) fun v2 =>
  onV ((oBin Try.prog .add 3 (.int .i64 1) v2).filter closed) fun v3 =>
  onV ((oBin Try.prog .lss 3 (d 8) v3).filter closed) fun v4 =>
  onGrd true v4 (K' (FG 412 d [(51, v4), (50, v4), (49, v3), (48, v2), (47, v1), (46, (d 1)), (45, (d 8))]) H) := by kernel_rfl
theorem s7_9 : o7 0 call [1,1,1,0,1,0,0,0,0] 7 (FG 412 d [(51, (.bool true))]) H K' =
  onV (oFieldAddr Try.prog 88 (d 7) 0) fun v1 =>
  onV (gLoad Try.prog 85 v1 H) fun v2 =>
  onV (oLen Try.prog 85 v2) fun v3 =>
  onV ((oBin Try.prog .lss 3 v3 (.int .i64 520)).filter closed) fun v4 =>
  K' (FG 412 d [(56, v4), (55, v4), (54, v3), (53, v2), (52, v1), (51, (.bool true))]) H := by kernel_rfl
theorem s7_10 : o7 0 call [1,1,1,0,1,0,0,1,0,0] 0 (FG 412 d [(56, v4), (55, v4), (54, v3), (53, v2), (52, v1), (51, (.bool true))]) H K' =
  onV (oFieldAddr Try.prog 88 (d 7) 0) fun v5 =>
  onV (gLoad Try.prog 85 v5 H) fun v6 =>
  onV (oFieldAddr Try.prog 88 (d 3) 0) fun v7 =>
  onV (gLoad Try.prog 85 v7 H) fun v8 =>
  onVH (gAppend Try.prog 85 85 v6 v8 H) fun v9 H10 =>
  onV (oFieldAddr Try.prog 88 (d 7) 0) fun v11 =>
  onH (gStore Try.prog 85 v11 v9 H10) fun H12 =>
  K' (FG 412 d [(64, v11), (63, v9), (62, v8), (61, v7), (60, v6), (59, v5), (56, v4), (55, v4), (54, v3), (53, v2), (52, v1), (51, (.bool true))]) H12 := by kernel_rfl
theorem s7_11 : o7 0 call [1,1,1,0,1,0,0,0,0] 7 (FG 412 d [(51, (.bool false))]) H K' =
  K' (FG 412 d [(56, (.bool false)), (55, undef), (54, undef), (53, undef), (52, undef), (51, (.bool false))]) H := by kernel_rfl
theorem s7_12 : o7 0 call [1,1,1,0,1,0,0,1,1] 0 (FF 412 d) H K' =
  onV ((oBin Try.prog .add 3 (d 8) (.int .i64 1)).filter closed) fun v1 =>
  K' (FG 412 d [(8, v1), (58, v1), (57, (d 8))]) H := by kernel_rfl
theorem s7_13 : o7 0 call [1,1,1,1,0] 0 (FF 412 d) H K' =
  K' (FG 412 d [(9, (.int .i64 0))]) H := by kernel_rfl
theorem s7_14 : o7 0 call [1,1,1,1,1,0,0] 0 (FG 412 d [(9, (.int .i64 0))]) H K' =
  K' (FG 412 d [(10, (.int .i64 0)), (9, (.int .i64 0))]) H := by kernel_rfl
theorem s7_15 : o7 0 call [1,1,1,1,1,0,1,0,0,0,0] 0 (FF 412 d) H K' =
  onV (oFieldAddr Try.prog 88 (d 7) 0) fun v1 =>
  onV (gLoad Try.prog 85 v1 H) fun v2 =>
  onV (oLen Try.prog 85 v2) fun v3 =>
  onV ((oBin Try.prog .lss 3 (d 10) v3).filter closed) fun v4 =>
  K' (FG 412 d [(69, v4), (68, v3), (67, v2), (66, v1), (65, (d 10))]) H := by kernel_rfl
theorem s7_16 : o7 0 call [1,1,1,1,1,0,1,0,0,1,0,0,0] 0 (FG 412 d [(69, v4), (68, v3), (67, v2), (66, v1), (65, (d 10))]) H K' =
  onV (oFieldAddr Try.prog 88 (d 7) 0) fun v5 =>
  onV (gLoad Try.prog 85 v5 H) fun v6 =>
  onV (oIndexAddr Try.prog 85 v6 (d 10)) fun v7 =>
  onV (gLoad Try.prog 93 v7 H) fun v8 =>
  onH (gStore Try.prog 93 (.pointer (some ⟨H.n, 0, none⟩)) v8 (GH.push H (.row [(.int .i64 0), (.int .i64 0)] 93 false))) fun H9 =>
  K' (FG 412 d [(11, (.pointer (some ⟨H.n, 0, none⟩))), (76, v8), (75, v7), (74, (d 10)), (73, v6), (72, v5), (69, v4), (68, v3), (67, v2), (66, v1), (65, (d 10))]) H9 := by kernel_rfl
theorem s7_17 : t7 0 call [1,1,1,1,1,0,1,0,0,1,0,0,1,0] 0 4 (FF 412 d) H K' =
  onV (oFieldAddr Try.prog 93 (d 11) 0) fun v1 =>
  onV (gLoad Try.prog 3 v1 H) fun v2 =>
  onV ((oBin Try.prog .lss 3 v2 (.int .i64 1)).filter closed) fun v3 =>
  onGrd true v3 (K' (FG 412 d [(80, v3), (79, v3), (78, v2), (77, v1)]) H) := by kernel_rfl
theorem s7_18 : o7 0 call [1,1,1,1,1,1,0,0] 0 (FF 412 d) H K' =
  K' (FG 412 d [(12, (.int .i64 0))]) H := by kernel_rfl
theorem s7_19 : o7 0 call [1,1,1,1,1,0,1,0,0,1,0,0,1,0] 4 (FG 412 d [(80, (.bool true))]) H K' =
  K' (FG 412 d [(94, (.bool true)), (93, undef), (92, undef), (91, undef), (90, (.bool true)), (89, (.bool true)), (88, undef), (87, undef), (86, undef), (85, (.bool true)), (84, (.bool true)), (83, undef), (82, undef), (81, undef), (80, (.bool true))]) H := by kernel_rfl
theorem s7_20 : t7 0 call [1,1,1,1,1,0,1,0,0,1,0,0,1,0] 4 5 (FG 412 d [(80, (.bool false))]) H K' =
  onV (oFieldAddr Try.prog 93 (d 11) 0) fun v1 =>
  onV (gLoad Try.prog 3 v1 H) fun v2 =>
  onV ((oBin Try.prog .gtr 3 v2 (.int .i64 1000)).filter closed) fun v3 =>
  onGrd true v3 (K' (FG 412 d [(85, v3), (84, v3), (83, v3), (82, v2), (81, v1), (80, (.bool false))]) H) := by kernel_rfl
theorem s7_21 : o7 0 call [1,1,1,1,1,1,0,1,0,0,0,0] 0 (FF 412 d) H K' =
  onV (oFieldAddr Try.prog 88 (d 7) 1) fun v1 =>
  onV (gLoad Try.prog 86 v1 H) fun v2 =>
  onV (oLen Try.prog 86 v2) fun v3 =>
  onV ((oBin Try.prog .lss 3 (d 12) v3).filter closed) fun v4 =>
  K' (FG 412 d [(99, v4), (98, v3), (97, v2), (96, v1), (95, (d 12))]) H := by kernel_rfl
theorem s7_22 : o7 0 call [1,1,1,1,1,1,0,1,0,0,1,0,0,0] 0 (FG 412 d [(99, v4), (98, v3), (97, v2), (96, v1), (95, (d 12))]) H K' =
  onV (oFieldAddr Try.prog 88 (d 7) 1) fun v5 =>
  onV (gLoad Try.prog 86 v5 H) fun v6 =>
  onV (oIndexAddr Try.prog 86 v6 (d 12)) fun v7 =>
  onV (gLoad Try.prog 91 v7 H) fun v8 =>
  onH (gStore Try.prog 91 (.pointer (some ⟨H.n, 0, none⟩)) v8 (GH.push H (.row [(.int .i64 0), (.int .i64 0), (.int .i64 0)] 91 false))) fun H9 =>
  K' (FG 412 d [(13, (.pointer (some ⟨H.n, 0, none⟩))), (106, v8), (105, v7), (104, (d 12)), (103, v6), (102, v5), (99, v4), (98, v3), (97, v2), (96, v1), (95, (d 12))]) H9 := by kernel_rfl
theorem s7_23 : o7 0 call [1,1,1,1,1,0,1,0,0,1,0,0,1,1,0] 0 (FF 412 d) H K' =
  K' (FG 412 d [(9, (.int .i64 1))]) H := by kernel_rfl
theorem s7_24 : o7 0 call [1,1,1,1,1,0,1,0,0,1,1] 0 (FG 412 d [(9, (.int .i64 1))]) H K' =
  onV ((oBin Try.prog .add 3 (d 10) (.int .i64 1)).filter closed) fun v1 =>
  K' (FG 412 d [(10, v1), (71, v1), (70, (d 10)), (9, (.int .i64 1))]) H := by kernel_rfl
theorem s7_25 : o7 0 call [1,1,1,1,1,0,1,0,0,1,0,0,1,0] 9 (FG 412 d [(85, (.bool true))]) H K' =
  K' (FG 412 d [(94, (.bool true)), (93, undef), (92, undef), (91, undef), (90, (.bool true)), (89, (.bool true)), (88, undef), (87, undef), (86, undef), (85, (.bool true))]) H := by kernel_rfl
theorem s7_26 : o7 0 call [1,1,1,1,1,0,1,0,0,1,0,0,1,1,0] 0 (FG 412 d [(94, (.bool true)), (93, undef), (92, undef), (91, undef), (90, (.bool true)), (89, (.bool true)), (88, undef), (87, undef), (86, undef), (85, (.bool true))]) H K' =
  K' (FG 412 d [(9, (.int .i64 1)), (94, (.bool true)), (93, undef), (92, undef), (91, undef), (90, (.bool true)), (89, (.bool true)), (88, undef), (87, undef), (86, undef), (85, (.bool true))]) H := by kernel_rfl
theorem s7_27 : o7 0 call [1,1,1,1,1,0,1,0,0,1,1] 0 (FG 412 d [(9, (.int .i64 1)), (94, (.bool true)), (93, undef), (92, undef), (91, undef), (90, (.bool true)), (89, (.bool true)), (88, undef), (87, undef), (86, undef), (85, (.bool true))]) H K' =
  onV ((oBin Try.prog .add 3 (d 10) (.int .i64 1)).filter closed) fun v1 =>
  K' (FG 412 d [(10, v1), (71, v1), (70, (d 10)), (9, (.int .i64 1)), (94, (.bool true)), (93, undef), (92, undef), (91, undef), (90, (.bool true)), (89, (.bool true)), (88, undef), (87, undef), (86, undef), (85, (.bool true))]) H := by kernel_rfl
theorem s7_28 : t7 0 call [1,1,1,1,1,0,1,0,0,1,0,0,1,0] 9 5 (FG 412 d [(85, (.bool false))]) H K' =
  onV (oFieldAddr Try.prog 93 (d 11) 1) fun v1 =>
  onV (gLoad Try.prog 3 v1 H) fun v2 =>
  onV ((oBin Try.prog .lss 3 v2 (.int .i64 1)).filter closed) fun v3 =>
  onGrd true v3 (K' (FG 412 d [(90, v3), (89, v3), (88, v3), (87, v2), (86, v1), (85, (.bool false))]) H) := by kernel_rfl
theorem s7_29 : t7 0 call [1,1,1,1,1,1,0,1,0,0,1,0,0,1,0,0] 0 4 (FF 412 d) H K' =
  onV (oFieldAddr Try.prog 91 (d 13) 0) fun v1 =>
  onV (gLoad Try.prog 3 v1 H) fun v2 =>
  onV ((oBin Try.prog .lss 3 v2 (.int .i64 1)).filter closed) fun v3 =>
  onGrd true v3 (K' (FG 412 d [(110, v3), (109, v3), (108, v2), (107, v1)]) H) := by kernel_rfl
theorem s7_30 : o7 0 call [1,1,1,1,1,1,1,0,0] 0 (FF 412 d) H K' =
  K' (FG 412 d [(14, (.int .i64 0))]) H := by kernel_rfl
theorem s7_31 : o7 0 call [1,1,1,1,1,0,1,0,0,1,0,0,1,0] 14 (FG 412 d [(90, (.bool true))]) H K' =
  K' (FG 412 d [(94, (.bool true)), (93, undef), (92, undef), (91, undef), (90, (.bool true))]) H := by kernel_rfl
theorem s7_32 : o7 0 call [1,1,1,1,1,0,1,0,0,1,0,0,1,1,0] 0 (FG 412 d [(94, (.bool true)), (93, undef), (92, undef), (91, undef), (90, (.bool true))]) H K' =
  K' (FG 412 d [(9, (.int .i64 1)), (94, (.bool true)), (93, undef), (92, undef), (91, undef), (90, (.bool true))]) H := by kernel_rfl
theorem s7_33 : o7 0 call [1,1,1,1,1,0,1,0,0,1,1] 0 (FG 412 d [(9, (.int .i64 1)), (94, (.bool true)), (93, undef), (92, undef), (91, undef), (90, (.bool true))]) H K' =
  onV ((oBin Try.prog .add 3 (d 10) (.int .i64 1)).filter closed) fun v1 =>
  K' (FG 412 d [(10, v1), (71, v1), (70, (d 10)), (9, (.int .i64 1)), (94, (.bool true)), (93, undef), (92, undef), (91, undef), (90, (.bool true))]) H := by kernel_rfl
theorem s7_34 : o7 0 call [1,1,1,1,1,0,1,0,0,1,0,0,1,0] 14 (FG 412 d [(90, (.bool false))]) H K' =
  onV (oFieldAddr Try.prog 93 (d 11) 1) fun v1 =>
  onV (gLoad Try.prog 3 v1 H) fun v2 =>
  onV ((oBin Try.prog .gtr 3 v2 (.int .i64 1000000000)).filter closed) fun v3 =>
  K' (FG 412 d [(94, v3), (93, v3), (92, v2), (91, v1), (90, (.bool false))]) H := by kernel_rfl
theorem s7_35 : o7 0 call [1,1,1,1,1,0,1,0,0,1,0,0,1,1,0] 0 (FG 412 d [(94, v3), (93, v3), (92, v2), (91, v1), (90, (.bool false))]) H K' =
  K' (FG 412 d [(9, (.int .i64 1)), (94, v3), (93, v3), (92, v2), (91, v1), (90, (.bool false))]) H := by kernel_rfl
theorem s7_36 : o7 0 call [1,1,1,1,1,0,1,0,0,1,1] 0 (FG 412 d [(9, (.int .i64 1)), (94, v3), (93, v3), (92, v2), (91, v1), (90, (.bool false))]) H K' =
  onV ((oBin Try.prog .add 3 (d 10) (.int .i64 1)).filter closed) fun v4 =>
  K' (FG 412 d [(10, v4), (71, v4), (70, (d 10)), (9, (.int .i64 1)), (94, v3), (93, v3), (92, v2), (91, v1), (90, (.bool false))]) H := by kernel_rfl
theorem s7_37 : o7 0 call [1,1,1,1,1,0,1,0,0,1,1] 0 (FG 412 d [(94, v3), (93, v3), (92, v2), (91, v1), (90, (.bool false))]) H K' =
  onV ((oBin Try.prog .add 3 (d 10) (.int .i64 1)).filter closed) fun v5 =>
  K' (FG 412 d [(10, v5), (71, v5), (70, (d 10)), (94, v3), (93, v3), (92, v2), (91, v1), (90, (.bool false))]) H := by kernel_rfl
theorem s7_38 : o7 0 call [1,1,1,1,1,1,0,1,0,0,1,0,0,1,0,0] 4 (FG 412 d [(110, (.bool true))]) H K' =
  K' (FG 412 d [(134, (.bool true)), (133, undef), (132, undef), (131, undef), (130, (.bool true)), (129, (.bool true)), (128, undef), (127, undef), (126, undef), (125, (.bool true)), (124, (.bool true)), (123, undef), (122, undef), (121, undef), (120, (.bool true)), (119, (.bool true)), (118, undef), (117, undef), (116, undef), (115, (.bool true)), (114, (.bool true)), (113, undef), (112, undef), (111, undef), (110, (.bool true))]) H := by kernel_rfl
theorem s7_39 : t7 0 call [1,1,1,1,1,1,0,1,0,0,1,0,0,1,0,0] 4 5 (FG 412 d [(110, (.bool false))]) H K' =
  onV (oFieldAddr Try.prog 91 (d 13) 0) fun v1 =>
  onV (gLoad Try.prog 3 v1 H) fun v2 =>
  onV ((oBin Try.prog .gtr 3 v2 (.int .i64 100000)).filter closed) fun v3 =>
  onGrd true v3 (K' (FG 412 d [(115, v3), (114, v3), (113, v3), (112, v2), (111, v1), (110, (.bool false))]) H) := by kernel_rfl
theorem s7_40 : t7 0 call [1,1,1,1,1,1,1,0,1,0,0,0,0] 0 6 (FF 412 d) H K' =
  onV (oFieldAddr Try.prog 88 (d 7) 1) fun v1 =>
  onV (gLoad Try.prog 86 v1 H) fun v2 =>
  onV (oLen Try.prog 86 v2) fun v3 =>
  onV ((oBin Try.prog .lss 3 (d 14) v3).filter closed) fun v4 =>
  onGrd true v4 (K' (FG 412 d [(178, v4), (177, v4), (176, v3), (175, v2), (174, v1), (173, (d 14))]) H) := by kernel_rfl
theorem s7_41 : o7 0 call [1,1,1,1,1,1,0,1,0,0,1,0,0,1,0,1,0] 0 (FF 412 d) H K' =
  K' (FG 412 d [(9, (.int .i64 1))]) H := by kernel_rfl
theorem s7_42 : t7 1 call [1,1,1,1,1,1,0,1,0,0,1,0,0,1,1,0] 0 3 (FG 412 d [(9, (.int .i64 1))]) H K' =
  onV ((oBin Try.prog .gtr 3 (d 12) (.int .i64 0)).filter closed) fun v1 =>
  onGrd true v1 (K' (FG 412 d [(137, v1), (136, v1), (135, (d 12)), (9, (.int .i64 1))]) H) := by kernel_rfl
theorem s7_43 : o7 0 call [1,1,1,1,1,1,0,1,0,0,1,0,0,1,0,0] 9 (FG 412 d [(115, (.bool true))]) H K' =
  K' (FG 412 d [(134, (.bool true)), (133, undef), (132, undef), (131, undef), (130, (.bool true)), (129, (.bool true)), (128, undef), (127, undef), (126, undef), (125, (.bool true)), (124, (.bool true)), (123, undef), (122, undef), (121, undef), (120, (.bool true)), (119, (.bool true)), (118, undef), (117, undef), (116, undef), (115, (.bool true))]) H := by kernel_rfl
theorem s7_44 : t7 0 call [1,1,1,1,1,1,0,1,0,0,1,0,0,1,0,0] 9 5 (FG 412 d [(115, (.bool false))]) H K' =
  onV (oFieldAddr Try.prog 91 (d 13) 1) fun v1 =>
  onV (gLoad Try.prog 3 v1 H) fun v2 =>
  onV ((oBin Try.prog .lss 3 v2 (.int .i64 1)).filter closed) fun v3 =>
  onGrd true v3 (K' (FG 412 d [(120, v3), (119, v3), (118, v3), (117, v2), (116, v1), (115, (.bool false))]) H) := by kernel_rfl
theorem s7_45 : o7 0 call [1,1,1,1,1,1,1,0,1,0,0,0,0] 6 (FG 412 d [(178, (.bool true))]) H K' =
  onV ((oBin Try.prog .eql 27 (d 9) (.int .i64 0)).filter closed) fun v1 =>
  K' (FG 412 d [(181, v1), (180, v1), (179, (d 9)), (178, (.bool true))]) H := by kernel_rfl
theorem s7_46 : o7 0 call [1,1,1,1,1,1,1,0,1,0,0,1,0,0,0] 0 (FG 412 d [(181, v1), (180, v1), (179, (d 9)), (178, (.bool true))]) H K' =
  K' (FG 412 d [(15, (.int .i64 0)), (181, v1), (180, v1), (179, (d 9)), (178, (.bool true))]) H := by kernel_rfl
theorem s7_47 : o7 0 call [1,1,1,1,1,1,1,0,1,0,0,1,0,0,1,0,0] 0 (FG 412 d [(15, (.int .i64 0)), (181, v1), (180, v1), (179, (d 9)), (178, (.bool true))]) H K' =
  K' (FG 412 d [(16, (.int .i64 0)), (15, (.int .i64 0)), (181, v1), (180, v1), (179, (d 9)), (178, (.bool true))]) H := by kernel_rfl
theorem s7_48 : o7 0 call [1,1,1,1,1,1,1,0,1,0,0,0,0] 6 (FG 412 d [(178, (.bool false))]) H K' =
  K' (FG 412 d [(181, (.bool false)), (180, undef), (179, undef), (178, (.bool false))]) H := by kernel_rfl
theorem s7_49 : t7 1 call [1,1,1,1,1,1,0,1,0,0,1,0,0,1,1,0] 3 11 (FG 412 d [(137, (.bool true))]) H K' =
  onV (oFieldAddr Try.prog 88 (d 7) 1) fun v1 =>
  onV (gLoad Try.prog 86 v1 H) fun v2 =>
  onV ((oBin Try.prog .sub 3 (d 12) (.int .i64 1)).filter closed) fun v3 =>
  onV (oIndexAddr Try.prog 86 v2 v3) fun v4 =>
  onV (oFieldAddr Try.prog 91 v4 0) fun v5 =>
  onV (gLoad Try.prog 3 v5 H) fun v6 =>
  onV (oFieldAddr Try.prog 91 (d 13) 0) fun v7 =>
  onV (gLoad Try.prog 3 v7 H) fun v8 =>
  onV ((oBin Try.prog .gtr 3 v6 v8).filter closed) fun v9 =>
  onGrd true v9 (K' (FG 412 d [(148, v9), (147, v9), (146, v8), (145, v7), (144, v6), (143, v5), (142, v4), (141, v3), (140, (d 12)), (139, v2), (138, v1), (137, (.bool true))]) H) := by kernel_rfl
theorem s7_50 : o7 1 call [1,1,1,1,1,1,0,1,0,0,1,0,0,1,1,0] 3 (FG 412 d [(137, (.bool false))]) H K' =
  K' (FG 412 d [(172, (.bool false)), (171, undef), (170, undef), (169, undef), (168, undef), (167, undef), (166, undef), (165, undef), (164, undef), (163, undef), (162, undef), (161, undef), (160, undef), (159, undef), (158, undef), (157, undef), (156, undef), (155, undef), (154, undef), (153, undef), (152, undef), (151, undef), (150, undef), (149, undef), (148, undef), (147, undef), (146, undef), (145, undef), (144, undef), (143, undef), (142, undef), (141, undef), (140, undef), (139, undef), (138, undef), (137, (.bool false))]) H := by kernel_rfl
theorem s7_51 : o7 0 call [1,1,1,1,1,1,0,1,0,0,1,0,0,1,0,0] 14 (FG 412 d [(120, (.bool true))]) H K' =
  K' (FG 412 d [(134, (.bool true)), (133, undef), (132, undef), (131, undef), (130, (.bool true)), (129, (.bool true)), (128, undef), (127, undef), (126, undef), (125, (.bool true)), (124, (.bool true)), (123, undef), (122, undef), (121, undef), (120, (.bool true))]) H := by kernel_rfl
theorem s7_52 : t7 0 call [1,1,1,1,1,1,0,1,0,0,1,0,0,1,0,0] 14 5 (FG 412 d [(120, (.bool false))]) H K' =
  onV (oFieldAddr Try.prog 91 (d 13) 1) fun v1 =>
  onV (gLoad Try.prog 3 v1 H) fun v2 =>
  onV ((oBin Try.prog .gtr 3 v2 (.int .i64 1000)).filter closed) fun v3 =>
  onGrd true v3 (K' (FG 412 d [(125, v3), (124, v3), (123, v3), (122, v2), (121, v1), (120, (.bool false))]) H) := by kernel_rfl
theorem s7_53 : o7 0 call [1,1,1,1,1,1,1,0,1,0,0,1,0,0,1,0,1,0,0,0,0] 0 (FF 412 d) H K' =
  onV (oFieldAddr Try.prog 88 (d 7) 0) fun v1 =>
  onV (gLoad Try.prog 85 v1 H) fun v2 =>
  onV (oLen Try.prog 85 v2) fun v3 =>
  onV ((oBin Try.prog .lss 3 (d 16) v3).filter closed) fun v4 =>
  K' (FG 412 d [(188, v4), (187, v3), (186, v2), (185, v1), (184, (d 16))]) H := by kernel_rfl
theorem s7_54 : o7 0 call [1,1,1,1,1,1,1,1,0,0] 0 (FF 412 d) H K' =
  onV (oFieldAddr Try.prog 88 (d 7) 0) fun v1 =>
  onV (gLoad Try.prog 85 v1 H) fun v2 =>
  onV (oLen Try.prog 85 v2) fun v3 =>
  onV ((oBin Try.prog .gtr 3 v3 (.int .i64 512)).filter closed) fun v4 =>
  K' (FG 412 d [(245, v4), (244, v3), (243, v2), (242, v1)]) H := by kernel_rfl
theorem s7_55 : o7 0 call [1,1,1,1,1,1,1,1,0,1,0] 0 (FG 412 d [(245, v4), (244, v3), (243, v2), (242, v1)]) H K' =
  K' (FG 412 d [(9, (.int .i64 3)), (245, v4), (244, v3), (243, v2), (242, v1)]) H := by kernel_rfl
theorem s7_56 : o7 1 call [1,1,1,1,1,1,0,1,0,0,1,0,0,1,1,0] 14 (FG 412 d [(148, (.bool true)), (137, (.bool true))]) H K' =
  K' (FG 412 d [(172, (.bool true)), (171, (.bool true)), (170, undef), (169, undef), (168, undef), (167, undef), (166, undef), (165, undef), (164, undef), (163, undef), (162, undef), (161, undef), (160, undef), (159, undef), (158, undef), (157, undef), (156, undef), (155, undef), (154, undef), (153, undef), (152, undef), (151, undef), (150, undef), (149, undef), (148, (.bool true)), (137, (.bool true))]) H := by kernel_rfl
theorem s7_57 : t7 1 call [1,1,1,1,1,1,0,1,0,0,1,0,0,1,1,0] 14 11 (FG 412 d [(148, (.bool false)), (137, (.bool true))]) H K' =
  onV (oFieldAddr Try.prog 88 (d 7) 1) fun v1 =>
  onV (gLoad Try.prog 86 v1 H) fun v2 =>
  onV ((oBin Try.prog .sub 3 (d 12) (.int .i64 1)).filter closed) fun v3 =>
  onV (oIndexAddr Try.prog 86 v2 v3) fun v4 =>
  onV (oFieldAddr Try.prog 91 v4 0) fun v5 =>
  onV (gLoad Try.prog 3 v5 H) fun v6 =>
  onV (oFieldAddr Try.prog 91 (d 13) 0) fun v7 =>
  onV (gLoad Try.prog 3 v7 H) fun v8 =>
  onV ((oBin Try.prog .eql 3 v6 v8).filter closed) fun v9 =>
  onGrd true v9 (K' (FG 412 d [(159, v9), (158, v9), (157, v8), (156, v7), (155, v6), (154, v5), (153, v4), (152, v3), (151, (d 12)), (150, v2), (149, v1), (148, (.bool false)), (137, (.bool true))]) H) := by kernel_rfl
theorem s7_58 : o7 0 call [1,1,1,1,1,1,0,1,0,0,1,1] 0 (FF 412 d) H K' =
  onV ((oBin Try.prog .add 3 (d 12) (.int .i64 1)).filter closed) fun v1 =>
  K' (FG 412 d [(12, v1), (101, v1), (100, (d 12))]) H := by kernel_rfl
theorem s7_59 : o7 0 call [1,1,1,1,1,1,0,1,0,0,1,0,0,1,0,0] 19 (FG 412 d [(125, (.bool true))]) H K' =
  K' (FG 412 d [(134, (.bool true)), (133, undef), (132, undef), (131, undef), (130, (.bool true)), (129, (.bool true)), (128, undef), (127, undef), (126, undef), (125, (.bool true))]) H := by kernel_rfl
theorem s7_60 : o7 0 call [1,1,1,1,1,1,0,1,0,0,1,0,0,1,0,1,0] 0 (FG 412 d [(134, (.bool true)), (133, undef), (132, undef), (131, undef), (130, (.bool true)), (129, (.bool true)), (128, undef), (127, undef), (126, undef), (125, (.bool true))]) H K' =
  K' (FG 412 d [(9, (.int .i64 1)), (134, (.bool true)), (133, undef), (132, undef), (131, undef), (130, (.bool true)), (129, (.bool true)), (128, undef), (127, undef), (126, undef), (125, (.bool true))]) H := by kernel_rfl
theorem s7_61 : t7 0 call [1,1,1,1,1,1,0,1,0,0,1,0,0,1,0,0] 19 5 (FG 412 d [(125, (.bool false))]) H K' =
  onV (oFieldAddr Try.prog 91 (d 13) 2) fun v1 =>
  onV (gLoad Try.prog 3 v1 H) fun v2 =>
  onV ((oBin Try.prog .lss 3 v2 (.int .i64 1)).filter closed) fun v3 =>
  onGrd true v3 (K' (FG 412 d [(130, v3), (129, v3), (128, v3), (127, v2), (126, v1), (125, (.bool false))]) H) := by kernel_rfl
theorem s7_62 : o7 1 call [1,1,1,1,1,1,1,0,1,0,0,1,0,0,1,0,1,0,0,1,0,0,0] 0 (FF 412 d) H K' =
  onV (oFieldAddr Try.prog 88 (d 7) 0) fun v1 =>
  onV (gLoad Try.prog 85 v1 H) fun v2 =>
  onV (oIndexAddr Try.prog 85 v2 (d 16)) fun v3 =>
  onV (oFieldAddr Try.prog 93 v3 0) fun v4 =>
  onV (gLoad Try.prog 3 v4 H) fun v5 =>
  onV (oFieldAddr Try.prog 88 (d 7) 1) fun v6 =>
  onV (gLoad Try.prog 86 v6 H) fun v7 =>
  onV (oIndexAddr Try.prog 86 v7 (d 14)) fun v8 =>
  onV (oFieldAddr Try.prog 91 v8 1) fun v9 =>
  onV (gLoad Try.prog 3 v9 H) fun v10 =>
  onV ((oBin Try.prog .eql 3 v5 v10).filter closed) fun v11 =>
  K' (FG 412 d [(203, v11), (202, v10), (201, v9), (200, v8), (199, (d 14)), (198, v7), (197, v6), (196, v5), (195, v4), (194, v3), (193, (d 16)), (192, v2), (191, v1)]) H := by kernel_rfl
theorem s7_63 : o7 0 call [1,1,1,1,1,1,1,0,1,0,0,1,0,0,1,1,0,0] 0 (FF 412 d) H K' =
  K' (FG 412 d [(17, (.int .i64 0))]) H := by kernel_rfl
theorem s7_64 : o7 0 call [1,1,1,1,1,1,1,1,1,0,0] 0 (FF 412 d) H K' =
  onV (gLoad Try.prog 88 (d 7) H) fun v1 =>
  onCall 0 call (.func (.func 34) #[] #[]) [v1] H fun v2 H3 =>
  onV ((oBin Try.prog .neq 27 v2 (d 9)).filter closed) fun v4 =>
  K' (FG 412 d [(249, v4), (248, (d 9)), (247, v2), (246, v1)]) H3 := by kernel_rfl
theorem s7_65 : o7 0 call [1,1,1,1,1,1,1,1,1,0,1,0,0] 0 (FG 412 d [(249, v4), (248, (d 9)), (247, v2), (246, v1)]) H3 K' =
  K' (FG 412 d [(6, (.bool false)), (249, v4), (248, (d 9)), (247, v2), (246, v1)]) H3 := by kernel_rfl
theorem s7_66 : o7 0 call [1,1,1,1,1,1,1,1,1,1,0] 0 (FG 412 d [(249, v4), (248, (d 9)), (247, v2), (246, v1)]) H3 K' =
  onV (oFieldAddr Try.prog 91 (d 5) 1) fun v5 =>
  onV (gLoad Try.prog 3 v5 H3) fun v6 =>
  onV (oFieldAddr Try.prog 91 (d 5) 2) fun v7 =>
  onV (gLoad Try.prog 3 v7 H3) fun v8 =>
  onV (oBuild Try.prog 93 [(0, v6), (1, v8)]) fun v9 =>
  onH (gStore Try.prog 93 (.pointer (some ⟨H3.n, 0, none⟩)) v9 (GH.push H3 (.row [(.int .i64 0), (.int .i64 0)] 93 false))) fun H10 =>
  K' (FG 412 d [(18, (.pointer (some ⟨H3.n, 0, none⟩))), (254, v9), (253, v8), (252, v7), (251, v6), (250, v5), (249, v4), (248, (d 9)), (247, v2), (246, v1)]) H10 := by kernel_rfl
theorem s7_67 : o7 0 call [1,1,1,1,1,1,0,1,0,0,1,0,0,1,1,1,0] 0 (FF 412 d) H K' =
  K' (FG 412 d [(9, (.int .i64 1))]) H := by kernel_rfl
theorem s7_68 : o7 0 call [1,1,1,1,1,1,0,1,0,0,1,1] 0 (FG 412 d [(9, (.int .i64 1))]) H K' =
  onV ((oBin Try.prog .add 3 (d 12) (.int .i64 1)).filter closed) fun v1 =>
  K' (FG 412 d [(12, v1), (101, v1), (100, (d 12)), (9, (.int .i64 1))]) H := by kernel_rfl
theorem s7_69 : o7 1 call [1,1,1,1,1,1,0,1,0,0,1,0,0,1,1,0] 25 (FG 412 d [(159, (.bool true)), (148, (.bool false)), (137, (.bool true))]) H K' =
  onV (oFieldAddr Try.prog 88 (d 7) 1) fun v1 =>
  onV (gLoad Try.prog 86 v1 H) fun v2 =>
  onV ((oBin Try.prog .sub 3 (d 12) (.int .i64 1)).filter closed) fun v3 =>
  onV (oIndexAddr Try.prog 86 v2 v3) fun v4 =>
  onV (oFieldAddr Try.prog 91 v4 1) fun v5 =>
  onV (gLoad Try.prog 3 v5 H) fun v6 =>
  onV (oFieldAddr Try.prog 91 (d 13) 1) fun v7 =>
  onV (gLoad Try.prog 3 v7 H) fun v8 =>
  onV ((oBin Try.prog .geq 3 v6 v8).filter closed) fun v9 =>
  K' (FG 412 d [(172, v9), (171, v9), (170, v9), (169, v9), (168, v8), (167, v7), (166, v6), (165, v5), (164, v4), (163, v3), (162, (d 12)), (161, v2), (160, v1), (159, (.bool true)), (148, (.bool false)), (137, (.bool true))]) H := by kernel_rfl
theorem s7_70 : o7 1 call [1,1,1,1,1,1,0,1,0,0,1,0,0,1,1,0] 25 (FG 412 d [(159, (.bool false)), (148, (.bool false)), (137, (.bool true))]) H K' =
  K' (FG 412 d [(172, (.bool false)), (171, (.bool false)), (170, (.bool false)), (169, undef), (168, undef), (167, undef), (166, undef), (165, undef), (164, undef), (163, undef), (162, undef), (161, undef), (160, undef), (159, (.bool false)), (148, (.bool false)), (137, (.bool true))]) H := by kernel_rfl
theorem s7_71 : t7 1 call [1,1,1,1,1,1,0,1,0,0,1,0,0,1,1,0] 0 3 (FF 412 d) H K' =
  onV ((oBin Try.prog .gtr 3 (d 12) (.int .i64 0)).filter closed) fun v1 =>
  onGrd true v1 (K' (FG 412 d [(137, v1), (136, v1), (135, (d 12))]) H) := by kernel_rfl
theorem s7_72 : o7 0 call [1,1,1,1,1,1,0,1,0,0,1,0,0,1,0,0] 24 (FG 412 d [(130, (.bool true))]) H K' =
  K' (FG 412 d [(134, (.bool true)), (133, undef), (132, undef), (131, undef), (130, (.bool true))]) H := by kernel_rfl
theorem s7_73 : o7 0 call [1,1,1,1,1,1,0,1,0,0,1,0,0,1,0,1,0] 0 (FG 412 d [(134, (.bool true)), (133, undef), (132, undef), (131, undef), (130, (.bool true))]) H K' =
  K' (FG 412 d [(9, (.int .i64 1)), (134, (.bool true)), (133, undef), (132, undef), (131, undef), (130, (.bool true))]) H := by kernel_rfl
theorem s7_74 : o7 0 call [1,1,1,1,1,1,0,1,0,0,1,0,0,1,0,0] 24 (FG 412 d [(130, (.bool false))]) H K' =
  onV (oFieldAddr Try.prog 91 (d 13) 2) fun v1 =>
  onV (gLoad Try.prog 3 v1 H) fun v2 =>
  onV ((oBin Try.prog .gtr 3 v2 (.int .i64 1000000000)).filter closed) fun v3 =>
  K' (FG 412 d [(134, v3), (133, v3), (132, v2), (131, v1), (130, (.bool false))]) H := by kernel_rfl
theorem s7_75 : o7 0 call [1,1,1,1,1,1,0,1,0,0,1,0,0,1,0,1,0] 0 (FG 412 d [(134, v3), (133, v3), (132, v2), (131, v1), (130, (.bool false))]) H K' =
  K' (FG 412 d [(9, (.int .i64 1)), (134, v3), (133, v3), (132, v2), (131, v1), (130, (.bool false))]) H := by kernel_rfl
theorem s7_76 : o7 0 call [1,1,1,1,1,1,1,0,1,0,0,1,0,0,1,0,1,0,0,1,0,0,1,0] 0 (FF 412 d) H K' =
  onV (oFieldAddr Try.prog 88 (d 7) 0) fun v1 =>
  onV (gLoad Try.prog 85 v1 H) fun v2 =>
  onV (oIndexAddr Try.prog 85 v2 (d 16)) fun v3 =>
  onV (oFieldAddr Try.prog 93 v3 1) fun v4 =>
  onV (gLoad Try.prog 3 v4 H) fun v5 =>
  onV ((oBin Try.prog .add 3 (d 15) v5).filter closed) fun v6 =>
  K' (FG 412 d [(15, v6), (211, v6), (210, v5), (209, v4), (208, v3), (207, (d 16)), (206, v2), (205, v1), (204, (d 15))]) H := by kernel_rfl
theorem s7_77 : o7 0 call [1,1,1,1,1,1,1,0,1,0,0,1,0,0,1,0,1,0,0,1,1] 0 (FG 412 d [(15, v6), (211, v6), (210, v5), (209, v4), (208, v3), (207, (d 16)), (206, v2), (205, v1), (204, (d 15))]) H K' =
  onV ((oBin Try.prog .add 3 (d 16) (.int .i64 1)).filter closed) fun v7 =>
  K' (FG 412 d [(16, v7), (190, v7), (189, (d 16)), (15, v6), (211, v6), (210, v5), (209, v4), (208, v3), (207, (d 16)), (206, v2), (205, v1), (204, (d 15))]) H := by kernel_rfl
theorem s7_78 : o7 0 call [1,1,1,1,1,1,1,0,1,0,0,1,0,0,1,0,1,0,0,1,1] 0 (FF 412 d) H K' =
  onV ((oBin Try.prog .add 3 (d 16) (.int .i64 1)).filter closed) fun v1 =>
  K' (FG 412 d [(16, v1), (190, v1), (189, (d 16))]) H := by kernel_rfl
theorem s7_79 : o7 0 call [1,1,1,1,1,1,1,0,1,0,0,1,0,0,1,1,0,1,0,0,0,0] 0 (FF 412 d) H K' =
  onV (oFieldAddr Try.prog 88 (d 7) 1) fun v1 =>
  onV (gLoad Try.prog 86 v1 H) fun v2 =>
  onV (oLen Try.prog 86 v2) fun v3 =>
  onV ((oBin Try.prog .lss 3 (d 17) v3).filter closed) fun v4 =>
  K' (FG 412 d [(216, v4), (215, v3), (214, v2), (213, v1), (212, (d 17))]) H := by kernel_rfl
theorem s7_80 : t7 0 call [1,1,1,1,1,1,1,1,1,1,1,0] 0 4 (FF 412 d) H K' =
  onV (oFieldAddr Try.prog 93 (d 18) 0) fun v1 =>
  onV (gLoad Try.prog 3 v1 H) fun v2 =>
  onV ((oBin Try.prog .geq 3 v2 (.int .i64 1)).filter closed) fun v3 =>
  onGrd true v3 (K' (FG 412 d [(258, v3), (257, v3), (256, v2), (255, v1)]) H) := by kernel_rfl
theorem s7_81 : t7 1 call [1,1,1,1,1,1,0,1,0,0,1,0,0,1,1,0] 0 3 (FF 412 d) H K' =
  onV ((oBin Try.prog .gtr 3 (d 12) (.int .i64 0)).filter closed) fun v1 =>
  onGrd true v1 (K' (FG 412 d [(137, v1), (136, v1), (135, (d 12))]) H) := by kernel_rfl
theorem s7_82 : o7 1 call [1,1,1,1,1,1,1,0,1,0,0,1,0,0,1,1,0,1,0,0,1,0,0,0] 0 (FF 412 d) H K' =
  onV (oFieldAddr Try.prog 88 (d 7) 1) fun v1 =>
  onV (gLoad Try.prog 86 v1 H) fun v2 =>
  onV (oIndexAddr Try.prog 86 v2 (d 17)) fun v3 =>
  onV (oFieldAddr Try.prog 91 v3 1) fun v4 =>
  onV (gLoad Try.prog 3 v4 H) fun v5 =>
  onV (oFieldAddr Try.prog 88 (d 7) 1) fun v6 =>
  onV (gLoad Try.prog 86 v6 H) fun v7 =>
  onV (oIndexAddr Try.prog 86 v7 (d 14)) fun v8 =>
  onV (oFieldAddr Try.prog 91 v8 1) fun v9 =>
  onV (gLoad Try.prog 3 v9 H) fun v10 =>
  onV ((oBin Try.prog .eql 3 v5 v10).filter closed) fun v11 =>
  K' (FG 412 d [(231, v11), (230, v10), (229, v9), (228, v8), (227, (d 14)), (226, v7), (225, v6), (224, v5), (223, v4), (222, v3), (221, (d 17)), (220, v2), (219, v1)]) H := by kernel_rfl
theorem s7_83 : o7 0 call [1,1,1,1,1,1,1,0,1,0,0,1,0,0,1,1,1,0] 0 (FF 412 d) H K' =
  onV ((oBin Try.prog .lss 3 (d 15) (.int .i64 0)).filter closed) fun v1 =>
  K' (FG 412 d [(241, v1), (240, (d 15))]) H := by kernel_rfl
theorem s7_84 : o7 0 call [1,1,1,1,1,1,1,0,1,0,0,1,0,0,1,1,1,1,0] 0 (FG 412 d [(241, v1), (240, (d 15))]) H K' =
  K' (FG 412 d [(9, (.int .i64 18)), (241, v1), (240, (d 15))]) H := by kernel_rfl
theorem s7_85 : o7 0 call [1,1,1,1,1,1,1,0,1,0,0,1,1] 0 (FG 412 d [(9, (.int .i64 18)), (241, v1), (240, (d 15))]) H K' =
  onV ((oBin Try.prog .add 3 (d 14) (.int .i64 1)).filter closed) fun v2 =>
  K' (FG 412 d [(14, v2), (183, v2), (182, (d 14)), (9, (.int .i64 18)), (241, v1), (240, (d 15))]) H := by kernel_rfl
theorem s7_86 : o7 0 call [1,1,1,1,1,1,1,0,1,0,0,1,1] 0 (FG 412 d [(241, v1), (240, (d 15))]) H K' =
  onV ((oBin Try.prog .add 3 (d 14) (.int .i64 1)).filter closed) fun v3 =>
  K' (FG 412 d [(14, v3), (183, v3), (182, (d 14)), (241, v1), (240, (d 15))]) H := by kernel_rfl
theorem s7_87 : t7 0 call [1,1,1,1,1,1,1,1,1,1,1,0] 4 5 (FG 412 d [(258, (.bool true))]) H K' =
  onV (oFieldAddr Try.prog 93 (d 18) 0) fun v1 =>
  onV (gLoad Try.prog 3 v1 H) fun v2 =>
  onV ((oBin Try.prog .leq 3 v2 (.int .i64 1000)).filter closed) fun v3 =>
  onGrd true v3 (K' (FG 412 d [(263, v3), (262, v3), (261, v3), (260, v2), (259, v1), (258, (.bool true))]) H) := by kernel_rfl
theorem s7_88 : o7 0 call [1,1,1,1,1,1,1,1,1,1,1,0] 4 (FG 412 d [(258, (.bool false))]) H K' =
  K' (FG 412 d [(19, (.bool false)), (272, (.bool false)), (271, undef), (270, undef), (269, undef), (268, (.bool false)), (267, (.bool false)), (266, undef), (265, undef), (264, undef), (263, (.bool false)), (262, (.bool false)), (261, undef), (260, undef), (259, undef), (258, (.bool false))]) H := by kernel_rfl
theorem s7_89 : o7 0 call [1,1,1,1,1,1,1,0,1,0,0,1,0,0,1,1,0,1,0,0,1,0,0,1,0] 0 (FF 412 d) H K' =
  onV (oFieldAddr Try.prog 88 (d 7) 1) fun v1 =>
  onV (gLoad Try.prog 86 v1 H) fun v2 =>
  onV (oIndexAddr Try.prog 86 v2 (d 17)) fun v3 =>
  onV (oFieldAddr Try.prog 91 v3 2) fun v4 =>
  onV (gLoad Try.prog 3 v4 H) fun v5 =>
  onV ((oBin Try.prog .sub 3 (d 15) v5).filter closed) fun v6 =>
  K' (FG 412 d [(15, v6), (239, v6), (238, v5), (237, v4), (236, v3), (235, (d 17)), (234, v2), (233, v1), (232, (d 15))]) H := by kernel_rfl
theorem s7_90 : o7 0 call [1,1,1,1,1,1,1,0,1,0,0,1,0,0,1,1,0,1,0,0,1,1] 0 (FG 412 d [(15, v6), (239, v6), (238, v5), (237, v4), (236, v3), (235, (d 17)), (234, v2), (233, v1), (232, (d 15))]) H K' =
  onV ((oBin Try.prog .add 3 (d 17) (.int .i64 1)).filter closed) fun v7 =>
  K' (FG 412 d [(17, v7), (218, v7), (217, (d 17)), (15, v6), (239, v6), (238, v5), (237, v4), (236, v3), (235, (d 17)), (234, v2), (233, v1), (232, (d 15))]) H := by kernel_rfl
theorem s7_91 : o7 0 call [1,1,1,1,1,1,1,0,1,0,0,1,0,0,1,1,0,1,0,0,1,1] 0 (FF 412 d) H K' =
  onV ((oBin Try.prog .add 3 (d 17) (.int .i64 1)).filter closed) fun v1 =>
  K' (FG 412 d [(17, v1), (218, v1), (217, (d 17))]) H := by kernel_rfl
theorem s7_92 : t7 0 call [1,1,1,1,1,1,1,1,1,1,1,0] 9 5 (FG 412 d [(263, (.bool true))]) H K' =
  onV (oFieldAddr Try.prog 93 (d 18) 1) fun v1 =>
  onV (gLoad Try.prog 3 v1 H) fun v2 =>
  onV ((oBin Try.prog .geq 3 v2 (.int .i64 1)).filter closed) fun v3 =>
  onGrd true v3 (K' (FG 412 d [(268, v3), (267, v3), (266, v3), (265, v2), (264, v1), (263, (.bool true))]) H) := by kernel_rfl
theorem s7_93 : o7 0 call [1,1,1,1,1,1,1,1,1,1,1,0] 9 (FG 412 d [(263, (.bool false))]) H K' =
  K' (FG 412 d [(19, (.bool false)), (272, (.bool false)), (271, undef), (270, undef), (269, undef), (268, (.bool false)), (267, (.bool false)), (266, undef), (265, undef), (264, undef), (263, (.bool false))]) H := by kernel_rfl
theorem s7_94 : o7 0 call [1,1,1,1,1,1,1,1,1,1,1,1,0] 0 (FF 412 d) H K' =
  onV (gLoad Try.prog 88 (d 7) H) fun v1 =>
  onV (gLoad Try.prog 93 (d 18) H) fun v2 =>
  onCall 0 call (.func (.func 35) #[] #[]) [v1, v2] H fun v3 H4 =>
  onV (oExtract v3 0) fun v5 =>
  onV (oExtract v3 1) fun v6 =>
  onH (gStore Try.prog 88 (.pointer (some ⟨H4.n, 0, none⟩)) v5 (GH.push H4 (.row [(.slice none 0 0), (.slice none 0 0)] 88 false))) fun H7 =>
  K' (FG 412 d [(21, v6), (20, (.pointer (some ⟨H4.n, 0, none⟩))), (278, v6), (277, v5), (273, v3), (276, v3), (275, v2), (274, v1)]) H7 := by kernel_rfl
theorem s7_95 : o7 0 call [1,1,1,1,1,1,1,1,1,1,1,0] 14 (FG 412 d [(268, (.bool true))]) H K' =
  onV (oFieldAddr Try.prog 93 (d 18) 1) fun v1 =>
  onV (gLoad Try.prog 3 v1 H) fun v2 =>
  onV ((oBin Try.prog .leq 3 v2 (.int .i64 1000000000)).filter closed) fun v3 =>
  K' (FG 412 d [(19, v3), (272, v3), (271, v3), (270, v2), (269, v1), (268, (.bool true))]) H := by kernel_rfl
theorem s7_96 : o7 0 call [1,1,1,1,1,1,1,1,1,1,1,0] 14 (FG 412 d [(268, (.bool false))]) H K' =
  K' (FG 412 d [(19, (.bool false)), (272, (.bool false)), (271, undef), (270, undef), (269, undef), (268, (.bool false))]) H := by kernel_rfl
theorem s7_97 : o7 0 call [1,1,1,1,1,1,1,1,1,1,1,1,1,0] 0 (FF 412 d) H K' =
  onV (gLoad Try.prog 88 (d 7) H) fun v1 =>
  onV (gLoad Try.prog 91 (d 5) H) fun v2 =>
  onVH (gBuildSlice Try.prog 86 1 [(0, v2)] H) fun v3 H4 =>
  onCall 0 call (.func (.func 36) #[] #[]) [v1, v3] H4 fun v5 H6 =>
  onV (oExtract v5 0) fun v7 =>
  onV (oExtract v5 1) fun v8 =>
  onH (gStore Try.prog 88 (.pointer (some ⟨H6.n, 0, none⟩)) v7 (GH.push H6 (.row [(.slice none 0 0), (.slice none 0 0)] 88 false))) fun H9 =>
  K' (FG 412 d [(23, v8), (22, (.pointer (some ⟨H6.n, 0, none⟩))), (285, v8), (284, v7), (279, v5), (283, v5), (282, v3), (281, v2), (280, v1)]) H9 := by kernel_rfl
theorem s7_98 : o7 0 call [1,1,1,1,1,1,1,1,1,1,1,1,1,1,0] 0 (FF 412 d) H K' =
  onV (gLoad Try.prog 88 (d 7) H) fun v1 =>
  onV (oFieldAddr Try.prog 91 (d 5) 0) fun v2 =>
  onV (gLoad Try.prog 3 v2 H) fun v3 =>
  onCall 0 call (.func (.func 37) #[] #[]) [v1, v3] H fun v4 H5 =>
  onV (oExtract v4 0) fun v6 =>
  onV (oExtract v4 1) fun v7 =>
  onH (gStore Try.prog 88 (.pointer (some ⟨H5.n, 0, none⟩)) v6 (GH.push H5 (.row [(.slice none 0 0), (.slice none 0 0)] 88 false))) fun H8 =>
  K' (FG 412 d [(25, v7), (24, (.pointer (some ⟨H5.n, 0, none⟩))), (292, v7), (291, v6), (286, v4), (290, v4), (289, v3), (288, v2), (287, v1)]) H8 := by kernel_rfl
theorem s7_99 : o7 0 call [1,1,1,1,1,1,1,1,1,1,1,1,1,1,1,0] 0 (FF 412 d) H K' =
  onV (gLoad Try.prog 88 (d 7) H) fun v1 =>
  onV (oFieldAddr Try.prog 91 (d 5) 0) fun v2 =>
  onV (gLoad Try.prog 3 v2 H) fun v3 =>
  onV (oFieldAddr Try.prog 91 (d 5) 1) fun v4 =>
  onV (gLoad Try.prog 3 v4 H) fun v5 =>
  onV (oFieldAddr Try.prog 91 (d 5) 2) fun v6 =>
  onV (gLoad Try.prog 3 v6 H) fun v7 =>
  onCall 0 call (.func (.func 38) #[] #[]) [v1, v3, v5, v7] H fun v8 H9 =>
  onV (oExtract v8 0) fun v10 =>
  onV (oExtract v8 1) fun v11 =>
  onV (oExtract v8 2) fun v12 =>
  onH (gStore Try.prog 88 (.pointer (some ⟨H9.n, 0, none⟩)) v10 (GH.push H9 (.row [(.slice none 0 0), (.slice none 0 0)] 88 false))) fun H13 =>
  K' (FG 412 d [(28, v12), (27, v11), (26, (.pointer (some ⟨H9.n, 0, none⟩))), (304, v12), (303, v11), (302, v10), (293, v8), (301, v8), (300, v7), (299, v6), (298, v5), (297, v4), (296, v3), (295, v2), (294, v1)]) H13 := by kernel_rfl
theorem s7_100 : o7 0 call [1,1,1,1,1,1,1,1,1,1,1,1,1,1,1,1,0,0] 0 (FF 412 d) H K' =
  onV ((oBin Try.prog .neq 27 (d 9) (.int .i64 0)).filter closed) fun v1 =>
  K' (FG 412 d [(306, v1), (305, (d 9))]) H := by kernel_rfl
theorem s7_101 : o7 0 call [1,1,1,1,1,1,1,1,1,1,1,1,1,1,1,1,1,0,0] 0 (FG 412 d [(306, v1), (305, (d 9))]) H K' =
  onV ((oUn Try.prog .not (d 19)).filter closed) fun v2 =>
  K' (FG 412 d [(358, v2), (357, (d 19)), (306, v1), (305, (d 9))]) H := by kernel_rfl
theorem s7_102 : o7 0 call [1,1,1,1,1,1,1,1,1,1,1,1,1,1,1,1,1,1,0] 0 (FG 412 d [(358, v2), (357, (d 19)), (306, v1), (305, (d 9))]) H K' =
  K' (FG 412 d [(29, (.int .i64 0)), (358, v2), (357, (d 19)), (306, v1), (305, (d 9))]) H := by kernel_rfl
theorem s7_103 : o7 0 call [1,1,1,1,1,1,1,1,1,1,1,1,1,1,1,1,1,1,1,0,0] 0 (FG 412 d [(29, (.int .i64 0)), (358, v2), (357, (d 19)), (306, v1), (305, (d 9))]) H K' =
  onV (oFieldAddr Try.prog 88 (d 7) 0) fun v3 =>
  onV (gLoad Try.prog 85 v3 H) fun v4 =>
  onV (oLen Try.prog 85 v4) fun v5 =>
  onV ((oBin Try.prog .eql 3 v5 (.int .i64 512)).filter closed) fun v6 =>
  K' (FG 412 d [(375, v6), (374, v5), (373, v4), (372, v3), (29, (.int .i64 0)), (358, v2), (357, (d 19)), (306, v1), (305, (d 9))]) H := by kernel_rfl
theorem s7_104 : o7 0 call [1,1,1,1,1,1,1,1,1,1,1,1,1,1,1,1,1,1,1,0,1,0] 0 (FG 412 d [(375, v6), (374, v5), (373, v4), (372, v3), (29, (.int .i64 0)), (358, v2), (357, (d 19)), (306, v1), (305, (d 9))]) H K' =
  K' (FG 412 d [(29, (.int .i64 9)), (375, v6), (374, v5), (373, v4), (372, v3), (29, (.int .i64 0)), (358, v2), (357, (d 19)), (306, v1), (305, (d 9))]) H := by kernel_rfl
theorem s7_105 : t7 0 call [1,1,1,1,1,1,1,1,1,1,1,1,1,1,1,1,0,1,0,0] 0 4 (FF 412 d) H K' =
  onV ((oBin Try.prog .eql 27 (d 21) (d 9)).filter closed) fun v1 =>
  onGrd true v1 (K' (FG 412 d [(310, v1), (309, v1), (308, (d 9)), (307, (d 21))]) H) := by kernel_rfl
theorem s7_106 : t7 0 call [1,1,1,1,1,1,1,1,1,1,1,1,1,1,1,1,1,0,1,0,0] 0 3 (FF 412 d) H K' =
  onV ((oBin Try.prog .eql 27 (d 21) (.int .i64 1)).filter closed) fun v1 =>
  onGrd true v1 (K' (FG 412 d [(361, v1), (360, v1), (359, (d 21))]) H) := by kernel_rfl
theorem s7_107 : t7 0 call [1,1,1,1,1,1,1,1,1,1,1,1,1,1,1,1,1,1,1,1,0] 0 4 (FF 412 d) H K' =
  onV (oFieldAddr Try.prog 91 (d 5) 0) fun v1 =>
  onV (gLoad Try.prog 3 v1 H) fun v2 =>
  onV ((oBin Try.prog .geq 3 v2 (.int .i64 1)).filter closed) fun v3 =>
  onGrd true v3 (K' (FG 412 d [(379, v3), (378, v3), (377, v2), (376, v1)]) H) := by kernel_rfl
theorem s7_108 : t7 0 call [1,1,1,1,1,1,1,1,1,1,1,1,1,1,1,1,0,1,0,0] 4 5 (FG 412 d [(310, (.bool true))]) H K' =
  onV ((oBin Try.prog .eql 27 (d 23) (d 9)).filter closed) fun v1 =>
  onGrd true v1 (K' (FG 412 d [(315, v1), (314, v1), (313, v1), (312, (d 9)), (311, (d 23)), (310, (.bool true))]) H) := by kernel_rfl
theorem s7_109 : o7 0 call [1,1,1,1,1,1,1,1,1,1,1,1,1,1,1,1,0,1,0,0] 4 (FG 412 d [(310, (.bool false))]) H K' =
  K' (FG 412 d [(6, (.bool false)), (356, (.bool false)), (355, undef), (354, (.bool false)), (353, (.bool false)), (352, undef), (351, undef), (350, undef), (349, undef), (348, undef), (347, undef), (346, (.bool false)), (345, (.bool false)), (344, undef), (343, undef), (342, undef), (341, undef), (340, undef), (339, (.bool false)), (338, (.bool false)), (337, undef), (336, undef), (335, undef), (334, undef), (333, undef), (332, undef), (331, undef), (330, undef), (329, (.bool false)), (328, (.bool false)), (327, undef), (326, undef), (325, (.bool false)), (324, (.bool false)), (323, undef), (322, undef), (321, undef), (320, (.bool false)), (319, (.bool false)), (318, undef), (317, undef), (316, undef), (315, (.bool false)), (314, (.bool false)), (313, undef), (312, undef), (311, undef), (310, (.bool false))]) H := by kernel_rfl
theorem s7_110 : t7 0 call [1,1,1,1,1,1,1,1,1,1,1,1,1,1,1,1,1,0,1,0,0] 3 4 (FG 412 d [(361, (.bool true))]) H K' =
  onV ((oBin Try.prog .eql 27 (d 23) (.int .i64 1)).filter closed) fun v1 =>
  onGrd true v1 (K' (FG 412 d [(365, v1), (364, v1), (363, v1), (362, (d 23)), (361, (.bool true))]) H) := by kernel_rfl
theorem s7_111 : o7 0 call [1,1,1,1,1,1,1,1,1,1,1,1,1,1,1,1,1,0,1,0,0] 3 (FG 412 d [(361, (.bool false))]) H K' =
  K' (FG 412 d [(6, (.bool false)), (371, (.bool false)), (370, undef), (369, (.bool false)), (368, (.bool false)), (367, undef), (366, undef), (365, (.bool false)), (364, (.bool false)), (363, undef), (362, undef), (361, (.bool false))]) H := by kernel_rfl
theorem s7_112 : o7 0 call [1,1,1,1,1,1,1,1,1,1,1,1,1,1,1,1,1,1,1,1,0] 4 (FG 412 d [(379, (.bool true))]) H K' =
  onV (oFieldAddr Try.prog 91 (d 5) 0) fun v1 =>
  onV (gLoad Try.prog 3 v1 H) fun v2 =>
  onV ((oBin Try.prog .leq 3 v2 (.int .i64 100000)).filter closed) fun v3 =>
  K' (FG 412 d [(30, v3), (383, v3), (382, v3), (381, v2), (380, v1), (379, (.bool true))]) H := by kernel_rfl
theorem s7_113 : o7 0 call [1,1,1,1,1,1,1,1,1,1,1,1,1,1,1,1,1,1,1,1,0] 4 (FG 412 d [(379, (.bool false))]) H K' =
  K' (FG 412 d [(30, (.bool false)), (383, (.bool false)), (382, undef), (381, undef), (380, undef), (379, (.bool false))]) H := by kernel_rfl
theorem s7_114 : t7 0 call [1,1,1,1,1,1,1,1,1,1,1,1,1,1,1,1,0,1,0,0] 9 5 (FG 412 d [(315, (.bool true))]) H K' =
  onV ((oBin Try.prog .eql 27 (d 25) (d 9)).filter closed) fun v1 =>
  onGrd true v1 (K' (FG 412 d [(320, v1), (319, v1), (318, v1), (317, (d 9)), (316, (d 25)), (315, (.bool true))]) H) := by kernel_rfl
theorem s7_115 : o7 0 call [1,1,1,1,1,1,1,1,1,1,1,1,1,1,1,1,0,1,0,0] 9 (FG 412 d [(315, (.bool false))]) H K' =
  K' (FG 412 d [(6, (.bool false)), (356, (.bool false)), (355, undef), (354, (.bool false)), (353, (.bool false)), (352, undef), (351, undef), (350, undef), (349, undef), (348, undef), (347, undef), (346, (.bool false)), (345, (.bool false)), (344, undef), (343, undef), (342, undef), (341, undef), (340, undef), (339, (.bool false)), (338, (.bool false)), (337, undef), (336, undef), (335, undef), (334, undef), (333, undef), (332, undef), (331, undef), (330, undef), (329, (.bool false)), (328, (.bool false)), (327, undef), (326, undef), (325, (.bool false)), (324, (.bool false)), (323, undef), (322, undef), (321, undef), (320, (.bool false)), (319, (.bool false)), (318, undef), (317, undef), (316, undef), (315, (.bool false))]) H := by kernel_rfl
theorem s7_116 : t7 0 call [1,1,1,1,1,1,1,1,1,1,1,1,1,1,1,1,1,0,1,0,0] 7 4 (FG 412 d [(365, (.bool true))]) H K' =
  onV ((oBin Try.prog .eql 27 (d 28) (.int .i64 1)).filter closed) fun v1 =>
  onGrd true v1 (K' (FG 412 d [(369, v1), (368, v1), (367, v1), (366, (d 28)), (365, (.bool true))]) H) := by kernel_rfl
theorem s7_117 : o7 0 call [1,1,1,1,1,1,1,1,1,1,1,1,1,1,1,1,1,0,1,0,0] 7 (FG 412 d [(365, (.bool false))]) H K' =
  K' (FG 412 d [(6, (.bool false)), (371, (.bool false)), (370, undef), (369, (.bool false)), (368, (.bool false)), (367, undef), (366, undef), (365, (.bool false))]) H := by kernel_rfl
theorem s7_118 : t7 0 call [1,1,1,1,1,1,1,1,1,1,1,1,1,1,1,1,1,1,1,1,1,0] 0 4 (FF 412 d) H K' =
  onV ((oBin Try.prog .eql 27 (d 21) (d 29)).filter closed) fun v1 =>
  onGrd true v1 (K' (FG 412 d [(387, v1), (386, v1), (385, (d 29)), (384, (d 21))]) H) := by kernel_rfl
theorem s7_119 : t7 0 call [1,1,1,1,1,1,1,1,1,1,1,1,1,1,1,1,0,1,0,0] 14 5 (FG 412 d [(320, (.bool true))]) H K' =
  onV ((oBin Try.prog .eql 27 (d 28) (d 9)).filter closed) fun v1 =>
  onGrd true v1 (K' (FG 412 d [(325, v1), (324, v1), (323, v1), (322, (d 9)), (321, (d 28)), (320, (.bool true))]) H) := by kernel_rfl
theorem s7_120 : o7 0 call [1,1,1,1,1,1,1,1,1,1,1,1,1,1,1,1,0,1,0,0] 14 (FG 412 d [(320, (.bool false))]) H K' =
  K' (FG 412 d [(6, (.bool false)), (356, (.bool false)), (355, undef), (354, (.bool false)), (353, (.bool false)), (352, undef), (351, undef), (350, undef), (349, undef), (348, undef), (347, undef), (346, (.bool false)), (345, (.bool false)), (344, undef), (343, undef), (342, undef), (341, undef), (340, undef), (339, (.bool false)), (338, (.bool false)), (337, undef), (336, undef), (335, undef), (334, undef), (333, undef), (332, undef), (331, undef), (330, undef), (329, (.bool false)), (328, (.bool false)), (327, undef), (326, undef), (325, (.bool false)), (324, (.bool false)), (323, undef), (322, undef), (321, undef), (320, (.bool false))]) H := by kernel_rfl
theorem s7_121 : o7 0 call [1,1,1,1,1,1,1,1,1,1,1,1,1,1,1,1,1,0,1,0,0] 11 (FG 412 d [(369, (.bool true))]) H K' =
  onCall 0 call (.func (.func 33) #[] #[]) [] H fun v1 H2 =>
  K' (FG 412 d [(6, v1), (371, v1), (370, v1), (369, (.bool true))]) H2 := by kernel_rfl
theorem s7_122 : o7 0 call [1,1,1,1,1,1,1,1,1,1,1,1,1,1,1,1,1,0,1,0,0] 11 (FG 412 d [(369, (.bool false))]) H K' =
  K' (FG 412 d [(6, (.bool false)), (371, (.bool false)), (370, undef), (369, (.bool false))]) H := by kernel_rfl
theorem s7_123 : t7 0 call [1,1,1,1,1,1,1,1,1,1,1,1,1,1,1,1,1,1,1,1,1,0] 4 7 (FG 412 d [(387, (.bool true))]) H K' =
  onV ((oBin Try.prog .eql 27 (d 23) (.int .i64 1)).filter closed) fun v1 =>
  onV ((oUn Try.prog .not (d 30)).filter closed) fun v2 =>
  onV ((oBin Try.prog .eql 4 v1 v2).filter closed) fun v3 =>
  onGrd true v3 (K' (FG 412 d [(394, v3), (393, v3), (392, v3), (391, v2), (390, (d 30)), (389, v1), (388, (d 23)), (387, (.bool true))]) H) := by kernel_rfl
theorem s7_124 : o7 0 call [1,1,1,1,1,1,1,1,1,1,1,1,1,1,1,1,1,1,1,1,1,0] 4 (FG 412 d [(387, (.bool false))]) H K' =
  K' (FG 412 d [(6, (.bool false)), (411, (.bool false)), (410, undef), (409, (.bool false)), (408, (.bool false)), (407, undef), (406, undef), (405, undef), (404, undef), (403, undef), (402, undef), (401, (.bool false)), (400, (.bool false)), (399, undef), (398, undef), (397, undef), (396, undef), (395, undef), (394, (.bool false)), (393, (.bool false)), (392, undef), (391, undef), (390, undef), (389, undef), (388, undef), (387, (.bool false))]) H := by kernel_rfl
theorem s7_125 : t7 0 call [1,1,1,1,1,1,1,1,1,1,1,1,1,1,1,1,0,1,0,0] 19 4 (FG 412 d [(325, (.bool true))]) H K' =
  onV ((oBin Try.prog .eql 3 (d 27) (.int .i64 0)).filter closed) fun v1 =>
  onGrd true v1 (K' (FG 412 d [(329, v1), (328, v1), (327, v1), (326, (d 27)), (325, (.bool true))]) H) := by kernel_rfl
theorem s7_126 : o7 0 call [1,1,1,1,1,1,1,1,1,1,1,1,1,1,1,1,0,1,0,0] 19 (FG 412 d [(325, (.bool false))]) H K' =
  K' (FG 412 d [(6, (.bool false)), (356, (.bool false)), (355, undef), (354, (.bool false)), (353, (.bool false)), (352, undef), (351, undef), (350, undef), (349, undef), (348, undef), (347, undef), (346, (.bool false)), (345, (.bool false)), (344, undef), (343, undef), (342, undef), (341, undef), (340, undef), (339, (.bool false)), (338, (.bool false)), (337, undef), (336, undef), (335, undef), (334, undef), (333, undef), (332, undef), (331, undef), (330, undef), (329, (.bool false)), (328, (.bool false)), (327, undef), (326, undef), (325, (.bool false))]) H := by kernel_rfl
theorem s7_127 : t7 0 call [1,1,1,1,1,1,1,1,1,1,1,1,1,1,1,1,1,1,1,1,1,0] 11 7 (FG 412 d [(394, (.bool true))]) H K' =
  onV ((oBin Try.prog .eql 27 (d 28) (.int .i64 1)).filter closed) fun v1 =>
  onV ((oUn Try.prog .not (d 30)).filter closed) fun v2 =>
  onV ((oBin Try.prog .eql 4 v1 v2).filter closed) fun v3 =>
  onGrd true v3 (K' (FG 412 d [(401, v3), (400, v3), (399, v3), (398, v2), (397, (d 30)), (396, v1), (395, (d 28)), (394, (.bool true))]) H) := by kernel_rfl
theorem s7_128 : o7 0 call [1,1,1,1,1,1,1,1,1,1,1,1,1,1,1,1,1,1,1,1,1,0] 11 (FG 412 d [(394, (.bool false))]) H K' =
  K' (FG 412 d [(6, (.bool false)), (411, (.bool false)), (410, undef), (409, (.bool false)), (408, (.bool false)), (407, undef), (406, undef), (405, undef), (404, undef), (403, undef), (402, undef), (401, (.bool false)), (400, (.bool false)), (399, undef), (398, undef), (397, undef), (396, undef), (395, undef), (394, (.bool false))]) H := by kernel_rfl
theorem s7_129 : t7 0 call [1,1,1,1,1,1,1,1,1,1,1,1,1,1,1,1,0,1,0,0] 23 10 (FG 412 d [(329, (.bool true))]) H K' =
  onV (oFieldAddr Try.prog 88 (d 20) 0) fun v1 =>
  onV (gLoad Try.prog 85 v1 H) fun v2 =>
  onV (oLen Try.prog 85 v2) fun v3 =>
  onV (oFieldAddr Try.prog 88 (d 22) 0) fun v4 =>
  onV (gLoad Try.prog 85 v4 H) fun v5 =>
  onV (oLen Try.prog 85 v5) fun v6 =>
  onV ((oBin Try.prog .add 3 v3 v6).filter closed) fun v7 =>
  onV ((oBin Try.prog .eql 3 v7 (.int .i64 0)).filter closed) fun v8 =>
  onGrd true v8 (K' (FG 412 d [(339, v8), (338, v8), (337, v8), (336, v7), (335, v6), (334, v5), (333, v4), (332, v3), (331, v2), (330, v1), (329, (.bool true))]) H) := by kernel_rfl
theorem s7_130 : o7 0 call [1,1,1,1,1,1,1,1,1,1,1,1,1,1,1,1,0,1,0,0] 23 (FG 412 d [(329, (.bool false))]) H K' =
  K' (FG 412 d [(6, (.bool false)), (356, (.bool false)), (355, undef), (354, (.bool false)), (353, (.bool false)), (352, undef), (351, undef), (350, undef), (349, undef), (348, undef), (347, undef), (346, (.bool false)), (345, (.bool false)), (344, undef), (343, undef), (342, undef), (341, undef), (340, undef), (339, (.bool false)), (338, (.bool false)), (337, undef), (336, undef), (335, undef), (334, undef), (333, undef), (332, undef), (331, undef), (330, undef), (329, (.bool false))]) H := by kernel_rfl
theorem s7_131 : t7 0 call [1,1,1,1,1,1,1,1,1,1,1,1,1,1,1,1,1,1,1,1,1,0] 18 3 (FG 412 d [(401, (.bool true))]) H K' =
  onV ((oBin Try.prog .eql 27 (d 25) (.int .i64 0)).filter closed) fun v1 =>
  onGrd true v1 (K' (FG 412 d [(404, v1), (403, v1), (402, (d 25)), (401, (.bool true))]) H) := by kernel_rfl
theorem s7_132 : o7 0 call [1,1,1,1,1,1,1,1,1,1,1,1,1,1,1,1,1,1,1,1,1,0] 18 (FG 412 d [(401, (.bool false))]) H K' =
  K' (FG 412 d [(6, (.bool false)), (411, (.bool false)), (410, undef), (409, (.bool false)), (408, (.bool false)), (407, undef), (406, undef), (405, undef), (404, undef), (403, undef), (402, undef), (401, (.bool false))]) H := by kernel_rfl
theorem s7_133 : t7 0 call [1,1,1,1,1,1,1,1,1,1,1,1,1,1,1,1,0,1,0,0] 33 7 (FG 412 d [(339, (.bool true))]) H K' =
  onV (gLoad Try.prog 88 (d 7) H) fun v1 =>
  onV (oFieldAddr Try.prog 91 (d 5) 1) fun v2 =>
  onV (gLoad Try.prog 3 v2 H) fun v3 =>
  onCall 0 call (.func (.func 39) #[] #[]) [v1, v3] H fun v4 H5 =>
  onV ((oBin Try.prog .eql 3 v4 (.int .i64 0)).filter closed) fun v6 =>
  onGrd true v6 (K' (FG 412 d [(346, v6), (345, v6), (344, v6), (343, v4), (342, v3), (341, v2), (340, v1), (339, (.bool true))]) H5) := by kernel_rfl
theorem s7_134 : o7 0 call [1,1,1,1,1,1,1,1,1,1,1,1,1,1,1,1,0,1,0,0] 33 (FG 412 d [(339, (.bool false))]) H K' =
  K' (FG 412 d [(6, (.bool false)), (356, (.bool false)), (355, undef), (354, (.bool false)), (353, (.bool false)), (352, undef), (351, undef), (350, undef), (349, undef), (348, undef), (347, undef), (346, (.bool false)), (345, (.bool false)), (344, undef), (343, undef), (342, undef), (341, undef), (340, undef), (339, (.bool false))]) H := by kernel_rfl
theorem s7_135 : o7 0 call [1,1,1,1,1,1,1,1,1,1,1,1,1,1,1,1,1,1,1,1,1,0] 21 (FG 412 d [(404, (.bool true)), (401, (.bool true))]) H K' =
  onCall 0 call (.func (.func 33) #[] #[]) [] H fun v1 H2 =>
  K' (FG 412 d [(6, v1), (411, v1), (410, v1), (409, (.bool true)), (408, (.bool true)), (407, (.bool true)), (406, undef), (405, undef), (404, (.bool true)), (401, (.bool true))]) H2 := by kernel_rfl
theorem s7_136 : t7 0 call [1,1,1,1,1,1,1,1,1,1,1,1,1,1,1,1,1,1,1,1,1,0] 21 5 (FG 412 d [(404, (.bool false)), (401, (.bool true))]) H K' =
  onV ((oBin Try.prog .eql 27 (d 25) (.int .i64 7)).filter closed) fun v1 =>
  onGrd true v1 (K' (FG 412 d [(409, v1), (408, v1), (407, v1), (406, v1), (405, (d 25)), (404, (.bool false)), (401, (.bool true))]) H) := by kernel_rfl
theorem s7_137 : t7 0 call [1,1,1,1,1,1,1,1,1,1,1,1,1,1,1,1,0,1,0,0] 40 8 (FG 412 d [(346, (.bool true))]) H K' =
  onV (gLoad Try.prog 88 (d 7) H) fun v1 =>
  onV (gLoad Try.prog 91 (d 5) H) fun v2 =>
  onVH (gBuildSlice Try.prog 86 1 [(0, v2)] H) fun v3 H4 =>
  onCall 0 call (.func (.func 40) #[] #[]) [v1, v3] H4 fun v5 H6 =>
  onV (oLen Try.prog 85 v5) fun v7 =>
  onV ((oBin Try.prog .eql 3 v7 (.int .i64 0)).filter closed) fun v8 =>
  onGrd true v8 (K' (FG 412 d [(354, v8), (353, v8), (352, v8), (351, v7), (350, v5), (349, v3), (348, v2), (347, v1), (346, (.bool true))]) H6) := by kernel_rfl
theorem s7_138 : o7 0 call [1,1,1,1,1,1,1,1,1,1,1,1,1,1,1,1,0,1,0,0] 40 (FG 412 d [(346, (.bool false))]) H K' =
  K' (FG 412 d [(6, (.bool false)), (356, (.bool false)), (355, undef), (354, (.bool false)), (353, (.bool false)), (352, undef), (351, undef), (350, undef), (349, undef), (348, undef), (347, undef), (346, (.bool false))]) H := by kernel_rfl
theorem s7_139 : o7 0 call [1,1,1,1,1,1,1,1,1,1,1,1,1,1,1,1,1,1,1,1,1,0] 26 (FG 412 d [(409, (.bool true))]) H K' =
  onCall 0 call (.func (.func 33) #[] #[]) [] H fun v1 H2 =>
  K' (FG 412 d [(6, v1), (411, v1), (410, v1), (409, (.bool true))]) H2 := by kernel_rfl
theorem s7_140 : o7 0 call [1,1,1,1,1,1,1,1,1,1,1,1,1,1,1,1,1,1,1,1,1,0] 26 (FG 412 d [(409, (.bool false))]) H K' =
  K' (FG 412 d [(6, (.bool false)), (411, (.bool false)), (410, undef), (409, (.bool false))]) H := by kernel_rfl
theorem s7_141 : o7 0 call [1,1,1,1,1,1,1,1,1,1,1,1,1,1,1,1,0,1,0,0] 48 (FG 412 d [(354, (.bool true))]) H K' =
  onCall 0 call (.func (.func 33) #[] #[]) [] H fun v1 H2 =>
  K' (FG 412 d [(6, v1), (356, v1), (355, v1), (354, (.bool true))]) H2 := by kernel_rfl
theorem s7_142 : o7 0 call [1,1,1,1,1,1,1,1,1,1,1,1,1,1,1,1,0,1,0,0] 48 (FG 412 d [(354, (.bool false))]) H K' =
  K' (FG 412 d [(6, (.bool false)), (356, (.bool false)), (355, undef), (354, (.bool false))]) H := by kernel_rfl
def f7_l33_P (ag : AG) (sg : Sg6) : Prop := ∀ (d : Nat → Value) (H : GH), ag (FF 412 d) H = sg (d 5) (d 7) (d 9) (d 14) (d 15) (d 17) H
theorem f7_l33_at {ag : AG} {sg : Sg6} (h : f7_l33_P ag sg) : ag (FF 412 d) H = sg (d 5) (d 7) (d 9) (d 14) (d 15) (d 17) H := h d H
def f7_l28_P (ag : AG) (sg : Sg6) : Prop := ∀ (d : Nat → Value) (H : GH), ag (FF 412 d) H = sg (d 5) (d 7) (d 9) (d 14) (d 15) (d 16) H
theorem f7_l28_at {ag : AG} {sg : Sg6} (h : f7_l28_P ag sg) : ag (FF 412 d) H = sg (d 5) (d 7) (d 9) (d 14) (d 15) (d 16) H := h d H
def f7_l24_P (ag : AG) (sg : Sg4) : Prop := ∀ (d : Nat → Value) (H : GH), ag (FF 412 d) H = sg (d 5) (d 7) (d 9) (d 14) H
theorem f7_l24_at {ag : AG} {sg : Sg4} (h : f7_l24_P ag sg) : ag (FF 412 d) H = sg (d 5) (d 7) (d 9) (d 14) H := h d H
def f7_l16_P (ag : AG) (sg : Sg4) : Prop := ∀ (d : Nat → Value) (H : GH), ag (FF 412 d) H = sg (d 5) (d 7) (d 9) (d 12) H
theorem f7_l16_at {ag : AG} {sg : Sg4} (h : f7_l16_P ag sg) : ag (FF 412 d) H = sg (d 5) (d 7) (d 9) (d 12) H := h d H
def f7_l10_P (ag : AG) (sg : Sg4) : Prop := ∀ (d : Nat → Value) (H : GH), ag (FF 412 d) H = sg (d 5) (d 7) (d 9) (d 10) H
theorem f7_l10_at {ag : AG} {sg : Sg4} (h : f7_l10_P ag sg) : ag (FF 412 d) H = sg (d 5) (d 7) (d 9) (d 10) H := h d H
def f7_l5_P (ag : AG) (sg : Sg5) : Prop := ∀ (d : Nat → Value) (H : GH), ag (FF 412 d) H = sg (d 1) (d 3) (d 5) (d 7) (d 8) H
theorem f7_l5_at {ag : AG} {sg : Sg5} (h : f7_l5_P ag sg) : ag (FF 412 d) H = sg (d 1) (d 3) (d 5) (d 7) (d 8) H := h d H
noncomputable def f7_r6 (call : Handle) (k : Nat) (sg_l5 : Sg5) (x1 x3 x5 x7 x8 : Value) (H : GH) : M (Value × GH) :=
  onV ((oBin Try.prog .add 3 x8 (.int .i64 1)).filter closed) fun v1 =>
  (sg_l5 x1 x3 x5 x7 v1 H)
theorem f7_r6_eq (call : Handle) (k : Nat) (ag_l5 : AG) (sg_l5 : Sg5) (h_l5 : f7_l5_P ag_l5 sg_l5) : g7 call k [1,1,1,0,1,0,0,1,1] (FF 412 d) H (hLoop ag_l5 (hBlock 0 (hSeq (g7 call k [1,1,1,1]) (hFin Try.prog Try.f7)))) = f7_r6 call k sg_l5 (d 1) (d 3) (d 5) (d 7) (d 8) H := by
  unfold f7_r6
  rw [n7_26]
  rw [s7_12]
  refine onV_c fun v1 => ?_
  rw [hLoop_n]
  generalize e : (FG 412 d [(8, v1), (58, v1), (57, (d 8))]) = a
  rw [show a = (FF 412 (gf a)) from (FF_gf (by subst e; exact FG_len)).symm]
  exact (f7_l5_at (d := gf a) h_l5).trans (by subst e; kernel_rfl)
noncomputable def f7_r14 (call : Handle) (k : Nat) (sg_l10 : Sg4) (x5 x7 x10 : Value) (H : GH) : M (Value × GH) :=
  onV ((oBin Try.prog .add 3 x10 (.int .i64 1)).filter closed) fun v1 =>
  (sg_l10 x5 x7 (.int .i64 1) v1 H)
theorem f7_r14_eq (call : Handle) (k : Nat) (ag_l10 : AG) (sg_l10 : Sg4) (h_l10 : f7_l10_P ag_l10 sg_l10) : g7 call k [1,1,1,1,1,0,1,0,0,1,0,0,1,1,0] (FF 412 d) H (hBlock 3 (hSeq (g7 call k [1,1,1,1,1,0,1,0,0,1,1]) (hLoop ag_l10 (hBlock 2 (hSeq (g7 call k [1,1,1,1,1,1]) (hFin Try.prog Try.f7)))))) = f7_r14 call k sg_l10 (d 5) (d 7) (d 10) H := by
  unfold f7_r14
  rw [n7_64]
  rw [s7_23]
  rw [hBlock_n]
  rw [hSeq_n]
  rw [n7_65]
  rw [s7_24]
  refine onV_c fun v1 => ?_
  rw [hLoop_n]
  generalize e : (FG 412 d [(10, v1), (71, v1), (70, (d 10)), (9, (.int .i64 1))]) = a
  rw [show a = (FF 412 (gf a)) from (FF_gf (by subst e; exact FG_len)).symm]
  exact (f7_l10_at (d := gf a) h_l10).trans (by subst e; kernel_rfl)
noncomputable def f7_g13_14 (call : Handle) (k : Nat) (sg_l10 : Sg4) (x90 : Value) (x5 x7 x9 x10 x11 : Value) (H : GH) : M (Value × GH) :=
 onBool (asB x90)
  (onV ((oBin Try.prog .add 3 x10 (.int .i64 1)).filter closed) fun v1 =>
  (sg_l10 x5 x7 (.int .i64 1) v1 H))
  (onV (oFieldAddr Try.prog 93 x11 1) fun v1 =>
  onV (gLoad Try.prog 3 v1 H) fun v2 =>
  onV ((oBin Try.prog .gtr 3 v2 (.int .i64 1000000000)).filter closed) fun v3 =>
  onBool (asB v3)
  (onV ((oBin Try.prog .add 3 x10 (.int .i64 1)).filter closed) fun v4 =>
  (sg_l10 x5 x7 (.int .i64 1) v4 H))
  (onV ((oBin Try.prog .add 3 x10 (.int .i64 1)).filter closed) fun v5 =>
  (sg_l10 x5 x7 x9 v5 H)))
theorem f7_g13_14_true (call : Handle) (k : Nat) (ag_l10 : AG) (sg_l10 : Sg4) (h_l10 : f7_l10_P ag_l10 sg_l10) : o7 0 call [1,1,1,1,1,0,1,0,0,1,0,0,1,0] 14 (FG 412 d [(90, (.bool true))]) H ((hSeq (g7 call k [1,1,1,1,1,0,1,0,0,1,0,0,1,1]) (hBlock 3 (hSeq (g7 call k [1,1,1,1,1,0,1,0,0,1,1]) (hLoop ag_l10 (hBlock 2 (hSeq (g7 call k [1,1,1,1,1,1]) (hFin Try.prog Try.f7))))))) .normal) =
  onV ((oBin Try.prog .add 3 (d 10) (.int .i64 1)).filter closed) fun v1 =>
  (sg_l10 (d 5) (d 7) (.int .i64 1) v1 H) := by
  rw [s7_31]
  rw [hSeq_n]
  rw [n7_51]
  refine (onBool_tt (by kernel_rfl)).trans ?_
  rw [n7_64]
  rw [s7_32]
  rw [hBlock_n]
  rw [hSeq_n]
  rw [n7_65]
  rw [s7_33]
  refine onV_c fun v1 => ?_
  rw [hLoop_n]
  generalize e : (FG 412 d [(10, v1), (71, v1), (70, (d 10)), (9, (.int .i64 1)), (94, (.bool true)), (93, undef), (92, undef), (91, undef), (90, (.bool true))]) = a
  rw [show a = (FF 412 (gf a)) from (FF_gf (by subst e; exact FG_len)).symm]
  exact (f7_l10_at (d := gf a) h_l10).trans (by subst e; kernel_rfl)
theorem f7_g13_14_false (call : Handle) (k : Nat) (ag_l10 : AG) (sg_l10 : Sg4) (h_l10 : f7_l10_P ag_l10 sg_l10) : o7 0 call [1,1,1,1,1,0,1,0,0,1,0,0,1,0] 14 (FG 412 d [(90, (.bool false))]) H ((hSeq (g7 call k [1,1,1,1,1,0,1,0,0,1,0,0,1,1]) (hBlock 3 (hSeq (g7 call k [1,1,1,1,1,0,1,0,0,1,1]) (hLoop ag_l10 (hBlock 2 (hSeq (g7 call k [1,1,1,1,1,1]) (hFin Try.prog Try.f7))))))) .normal) =
  onV (oFieldAddr Try.prog 93 (d 11) 1) fun v1 =>
  onV (gLoad Try.prog 3 v1 H) fun v2 =>
  onV ((oBin Try.prog .gtr 3 v2 (.int .i64 1000000000)).filter closed) fun v3 =>
  onBool (asB v3)
  (onV ((oBin Try.prog .add 3 (d 10) (.int .i64 1)).filter closed) fun v4 =>
  (sg_l10 (d 5) (d 7) (.int .i64 1) v4 H))
  (onV ((oBin Try.prog .add 3 (d 10) (.int .i64 1)).filter closed) fun v5 =>
  (sg_l10 (d 5) (d 7) (d 9) v5 H)) := by
  rw [s7_34]
  refine onV_c fun v1 => ?_
  refine onV_c fun v2 => ?_
  refine onV_c fun v3 => ?_
  rw [hSeq_n]
  rw [n7_51]
  refine onBool_cc (by kernel_rfl) ?_ ?_
  · rw [n7_64]
    rw [s7_35]
    rw [hBlock_n]
    rw [hSeq_n]
    rw [n7_65]
    rw [s7_36]
    refine onV_c fun v4 => ?_
    rw [hLoop_n]
    generalize e : (FG 412 d [(10, v4), (71, v4), (70, (d 10)), (9, (.int .i64 1)), (94, v3), (93, v3), (92, v2), (91, v1), (90, (.bool false))]) = a
    rw [show a = (FF 412 (gf a)) from (FF_gf (by subst e; exact FG_len)).symm]
    exact (f7_l10_at (d := gf a) h_l10).trans (by subst e; kernel_rfl)
  · rw [n7_72]
    rw [hBlock_n]
    rw [hSeq_n]
    rw [n7_65]
    rw [s7_37]
    refine onV_c fun v5 => ?_
    rw [hLoop_n]
    generalize e : (FG 412 d [(10, v5), (71, v5), (70, (d 10)), (94, v3), (93, v3), (92, v2), (91, v1), (90, (.bool false))]) = a
    rw [show a = (FF 412 (gf a)) from (FF_gf (by subst e; exact FG_len)).symm]
    exact (f7_l10_at (d := gf a) h_l10).trans (by subst e; kernel_rfl)
theorem f7_g13_14_eq (call : Handle) (k : Nat) (ag_l10 : AG) (sg_l10 : Sg4) (h_l10 : f7_l10_P ag_l10 sg_l10) : onGrd true xg (o7 0 call [1,1,1,1,1,0,1,0,0,1,0,0,1,0] 14 (FG 412 d [(90, xg)]) H ((hSeq (g7 call k [1,1,1,1,1,0,1,0,0,1,0,0,1,1]) (hBlock 3 (hSeq (g7 call k [1,1,1,1,1,0,1,0,0,1,1]) (hLoop ag_l10 (hBlock 2 (hSeq (g7 call k [1,1,1,1,1,1]) (hFin Try.prog Try.f7))))))) .normal)) =
  f7_g13_14 call k sg_l10 xg (d 5) (d 7) (d 9) (d 10) (d 11) H := by
  cases xg with
  | bool b => cases b with
    | true => exact onGrd_b.trans (f7_g13_14_true call k ag_l10 sg_l10 h_l10)
    | false => exact onGrd_b.trans (f7_g13_14_false call k ag_l10 sg_l10 h_l10)
  | _ => kernel_rfl
noncomputable def f7_g13_9 (call : Handle) (k : Nat) (sg_l10 : Sg4) (x85 : Value) (x5 x7 x9 x10 x11 : Value) (H : GH) : M (Value × GH) :=
 onBool (asB x85)
  (onV ((oBin Try.prog .add 3 x10 (.int .i64 1)).filter closed) fun v1 =>
  (sg_l10 x5 x7 (.int .i64 1) v1 H))
  (onV (oFieldAddr Try.prog 93 x11 1) fun v1 =>
  onV (gLoad Try.prog 3 v1 H) fun v2 =>
  onV ((oBin Try.prog .lss 3 v2 (.int .i64 1)).filter closed) fun v3 =>
  (f7_g13_14 call k (sg_l10) v3 x5 x7 x9 x10 x11 H))
theorem f7_g13_9_true (call : Handle) (k : Nat) (ag_l10 : AG) (sg_l10 : Sg4) (h_l10 : f7_l10_P ag_l10 sg_l10) : o7 0 call [1,1,1,1,1,0,1,0,0,1,0,0,1,0] 9 (FG 412 d [(85, (.bool true))]) H ((hSeq (g7 call k [1,1,1,1,1,0,1,0,0,1,0,0,1,1]) (hBlock 3 (hSeq (g7 call k [1,1,1,1,1,0,1,0,0,1,1]) (hLoop ag_l10 (hBlock 2 (hSeq (g7 call k [1,1,1,1,1,1]) (hFin Try.prog Try.f7))))))) .normal) =
  onV ((oBin Try.prog .add 3 (d 10) (.int .i64 1)).filter closed) fun v1 =>
  (sg_l10 (d 5) (d 7) (.int .i64 1) v1 H) := by
  rw [s7_25]
  rw [hSeq_n]
  rw [n7_51]
  refine (onBool_tt (by kernel_rfl)).trans ?_
  rw [n7_64]
  rw [s7_26]
  rw [hBlock_n]
  rw [hSeq_n]
  rw [n7_65]
  rw [s7_27]
  refine onV_c fun v1 => ?_
  rw [hLoop_n]
  generalize e : (FG 412 d [(10, v1), (71, v1), (70, (d 10)), (9, (.int .i64 1)), (94, (.bool true)), (93, undef), (92, undef), (91, undef), (90, (.bool true)), (89, (.bool true)), (88, undef), (87, undef), (86, undef), (85, (.bool true))]) = a
  rw [show a = (FF 412 (gf a)) from (FF_gf (by subst e; exact FG_len)).symm]
  exact (f7_l10_at (d := gf a) h_l10).trans (by subst e; kernel_rfl)
theorem f7_g13_9_false (call : Handle) (k : Nat) (ag_l10 : AG) (sg_l10 : Sg4) (h_l10 : f7_l10_P ag_l10 sg_l10) : o7 0 call [1,1,1,1,1,0,1,0,0,1,0,0,1,0] 9 (FG 412 d [(85, (.bool false))]) H ((hSeq (g7 call k [1,1,1,1,1,0,1,0,0,1,0,0,1,1]) (hBlock 3 (hSeq (g7 call k [1,1,1,1,1,0,1,0,0,1,1]) (hLoop ag_l10 (hBlock 2 (hSeq (g7 call k [1,1,1,1,1,1]) (hFin Try.prog Try.f7))))))) .normal) =
  onV (oFieldAddr Try.prog 93 (d 11) 1) fun v1 =>
  onV (gLoad Try.prog 3 v1 H) fun v2 =>
  onV ((oBin Try.prog .lss 3 v2 (.int .i64 1)).filter closed) fun v3 =>
  (f7_g13_14 call k (sg_l10) v3 (d 5) (d 7) (d 9) (d 10) (d 11) H) := by
  rw [o7_s 9 5, s7_28]
  refine onV_c fun v1 => ?_
  refine onV_c fun v2 => ?_
  refine onV_c fun v3 => ?_
  generalize e : (FG 412 d [(90, v3), (89, v3), (88, v3), (87, v2), (86, v1), (85, (.bool false))]) = a
  rw [show a = (FG 412 (gf a) [(90, v3)]) from (FG_eq (by subst e; exact FG_len) (FS_cons (by subst e; kernel_rfl) (FS_nil))).symm]
  exact (f7_g13_14_eq (d := gf a) call k ag_l10 sg_l10 h_l10).trans (by subst e; kernel_rfl)
theorem f7_g13_9_eq (call : Handle) (k : Nat) (ag_l10 : AG) (sg_l10 : Sg4) (h_l10 : f7_l10_P ag_l10 sg_l10) : onGrd true xg (o7 0 call [1,1,1,1,1,0,1,0,0,1,0,0,1,0] 9 (FG 412 d [(85, xg)]) H ((hSeq (g7 call k [1,1,1,1,1,0,1,0,0,1,0,0,1,1]) (hBlock 3 (hSeq (g7 call k [1,1,1,1,1,0,1,0,0,1,1]) (hLoop ag_l10 (hBlock 2 (hSeq (g7 call k [1,1,1,1,1,1]) (hFin Try.prog Try.f7))))))) .normal)) =
  f7_g13_9 call k sg_l10 xg (d 5) (d 7) (d 9) (d 10) (d 11) H := by
  cases xg with
  | bool b => cases b with
    | true => exact onGrd_b.trans (f7_g13_9_true call k ag_l10 sg_l10 h_l10)
    | false => exact onGrd_b.trans (f7_g13_9_false call k ag_l10 sg_l10 h_l10)
  | _ => kernel_rfl
noncomputable def f7_g13_4 (call : Handle) (k : Nat) (sg_l10 : Sg4) (x80 : Value) (x5 x7 x9 x10 x11 : Value) (H : GH) : M (Value × GH) :=
 onBool (asB x80)
  ((f7_r14 call k (sg_l10) x5 x7 x10 H))
  (onV (oFieldAddr Try.prog 93 x11 0) fun v1 =>
  onV (gLoad Try.prog 3 v1 H) fun v2 =>
  onV ((oBin Try.prog .gtr 3 v2 (.int .i64 1000)).filter closed) fun v3 =>
  (f7_g13_9 call k (sg_l10) v3 x5 x7 x9 x10 x11 H))
theorem f7_g13_4_true (call : Handle) (k : Nat) (ag_l10 : AG) (sg_l10 : Sg4) (h_l10 : f7_l10_P ag_l10 sg_l10) : o7 0 call [1,1,1,1,1,0,1,0,0,1,0,0,1,0] 4 (FG 412 d [(80, (.bool true))]) H ((hSeq (g7 call k [1,1,1,1,1,0,1,0,0,1,0,0,1,1]) (hBlock 3 (hSeq (g7 call k [1,1,1,1,1,0,1,0,0,1,1]) (hLoop ag_l10 (hBlock 2 (hSeq (g7 call k [1,1,1,1,1,1]) (hFin Try.prog Try.f7))))))) .normal) =
  (f7_r14 call k (sg_l10) (d 5) (d 7) (d 10) H) := by
  rw [s7_19]
  rw [hSeq_n]
  rw [n7_51]
  refine (onBool_tt (by kernel_rfl)).trans ?_
  generalize e : (FG 412 d [(94, (.bool true)), (93, undef), (92, undef), (91, undef), (90, (.bool true)), (89, (.bool true)), (88, undef), (87, undef), (86, undef), (85, (.bool true)), (84, (.bool true)), (83, undef), (82, undef), (81, undef), (80, (.bool true))]) = a
  rw [show a = (FF 412 (gf a)) from (FF_gf (by subst e; exact FG_len)).symm]
  exact (f7_r14_eq (d := gf a) call k ag_l10 sg_l10 h_l10).trans (by subst e; kernel_rfl)
theorem f7_g13_4_false (call : Handle) (k : Nat) (ag_l10 : AG) (sg_l10 : Sg4) (h_l10 : f7_l10_P ag_l10 sg_l10) : o7 0 call [1,1,1,1,1,0,1,0,0,1,0,0,1,0] 4 (FG 412 d [(80, (.bool false))]) H ((hSeq (g7 call k [1,1,1,1,1,0,1,0,0,1,0,0,1,1]) (hBlock 3 (hSeq (g7 call k [1,1,1,1,1,0,1,0,0,1,1]) (hLoop ag_l10 (hBlock 2 (hSeq (g7 call k [1,1,1,1,1,1]) (hFin Try.prog Try.f7))))))) .normal) =
  onV (oFieldAddr Try.prog 93 (d 11) 0) fun v1 =>
  onV (gLoad Try.prog 3 v1 H) fun v2 =>
  onV ((oBin Try.prog .gtr 3 v2 (.int .i64 1000)).filter closed) fun v3 =>
  (f7_g13_9 call k (sg_l10) v3 (d 5) (d 7) (d 9) (d 10) (d 11) H) := by
  rw [o7_s 4 5, s7_20]
  refine onV_c fun v1 => ?_
  refine onV_c fun v2 => ?_
  refine onV_c fun v3 => ?_
  generalize e : (FG 412 d [(85, v3), (84, v3), (83, v3), (82, v2), (81, v1), (80, (.bool false))]) = a
  rw [show a = (FG 412 (gf a) [(85, v3)]) from (FG_eq (by subst e; exact FG_len) (FS_cons (by subst e; kernel_rfl) (FS_nil))).symm]
  exact (f7_g13_9_eq (d := gf a) call k ag_l10 sg_l10 h_l10).trans (by subst e; kernel_rfl)
theorem f7_g13_4_eq (call : Handle) (k : Nat) (ag_l10 : AG) (sg_l10 : Sg4) (h_l10 : f7_l10_P ag_l10 sg_l10) : onGrd true xg (o7 0 call [1,1,1,1,1,0,1,0,0,1,0,0,1,0] 4 (FG 412 d [(80, xg)]) H ((hSeq (g7 call k [1,1,1,1,1,0,1,0,0,1,0,0,1,1]) (hBlock 3 (hSeq (g7 call k [1,1,1,1,1,0,1,0,0,1,1]) (hLoop ag_l10 (hBlock 2 (hSeq (g7 call k [1,1,1,1,1,1]) (hFin Try.prog Try.f7))))))) .normal)) =
  f7_g13_4 call k sg_l10 xg (d 5) (d 7) (d 9) (d 10) (d 11) H := by
  cases xg with
  | bool b => cases b with
    | true => exact onGrd_b.trans (f7_g13_4_true call k ag_l10 sg_l10 h_l10)
    | false => exact onGrd_b.trans (f7_g13_4_false call k ag_l10 sg_l10 h_l10)
  | _ => kernel_rfl
noncomputable def f7_r13 (call : Handle) (k : Nat) (sg_l10 : Sg4) (x5 x7 x9 x10 x11 : Value) (H : GH) : M (Value × GH) :=
  onV (oFieldAddr Try.prog 93 x11 0) fun v1 =>
  onV (gLoad Try.prog 3 v1 H) fun v2 =>
  onV ((oBin Try.prog .lss 3 v2 (.int .i64 1)).filter closed) fun v3 =>
  (f7_g13_4 call k (sg_l10) v3 x5 x7 x9 x10 x11 H)
theorem f7_r13_eq (call : Handle) (k : Nat) (ag_l10 : AG) (sg_l10 : Sg4) (h_l10 : f7_l10_P ag_l10 sg_l10) : g7 call k [1,1,1,1,1,0,1,0,0,1,0,0,1,0] (FF 412 d) H (hSeq (g7 call k [1,1,1,1,1,0,1,0,0,1,0,0,1,1]) (hBlock 3 (hSeq (g7 call k [1,1,1,1,1,0,1,0,0,1,1]) (hLoop ag_l10 (hBlock 2 (hSeq (g7 call k [1,1,1,1,1,1]) (hFin Try.prog Try.f7))))))) = f7_r13 call k sg_l10 (d 5) (d 7) (d 9) (d 10) (d 11) H := by
  unfold f7_r13
  rw [n7_45]
  rw [o7_s 0 4, s7_17]
  refine onV_c fun v1 => ?_
  refine onV_c fun v2 => ?_
  refine onV_c fun v3 => ?_
  generalize e : (FG 412 d [(80, v3), (79, v3), (78, v2), (77, v1)]) = a
  rw [show a = (FG 412 (gf a) [(80, v3)]) from (FG_eq (by subst e; exact FG_len) (FS_cons (by subst e; kernel_rfl) (FS_nil))).symm]
  exact (f7_g13_4_eq (d := gf a) call k ag_l10 sg_l10 h_l10).trans (by subst e; kernel_rfl)
noncomputable def f7_r17 (call : Handle) (k : Nat) (sg_l16 : Sg4) (x5 x7 x9 x12 : Value) (H : GH) : M (Value × GH) :=
  onV ((oBin Try.prog .add 3 x12 (.int .i64 1)).filter closed) fun v1 =>
  (sg_l16 x5 x7 x9 v1 H)
theorem f7_r17_eq (call : Handle) (k : Nat) (ag_l16 : AG) (sg_l16 : Sg4) (h_l16 : f7_l16_P ag_l16 sg_l16) : g7 call k [1,1,1,1,1,1,0,1,0,0,1,1] (FF 412 d) H (hLoop ag_l16 (hBlock 4 (hSeq (g7 call k [1,1,1,1,1,1,1]) (hFin Try.prog Try.f7)))) = f7_r17 call k sg_l16 (d 5) (d 7) (d 9) (d 12) H := by
  unfold f7_r17
  rw [n7_109]
  rw [s7_58]
  refine onV_c fun v1 => ?_
  rw [hLoop_n]
  generalize e : (FG 412 d [(12, v1), (101, v1), (100, (d 12))]) = a
  rw [show a = (FF 412 (gf a)) from (FF_gf (by subst e; exact FG_len)).symm]
  exact (f7_l16_at (d := gf a) h_l16).trans (by subst e; kernel_rfl)
noncomputable def f7_r22 (call : Handle) (k : Nat) (sg_l16 : Sg4) (x5 x7 x12 : Value) (H : GH) : M (Value × GH) :=
  onV ((oBin Try.prog .add 3 x12 (.int .i64 1)).filter closed) fun v1 =>
  (sg_l16 x5 x7 (.int .i64 1) v1 H)
theorem f7_r22_eq (call : Handle) (k : Nat) (ag_l16 : AG) (sg_l16 : Sg4) (h_l16 : f7_l16_P ag_l16 sg_l16) : g7 call k [1,1,1,1,1,1,0,1,0,0,1,0,0,1,1,1,0] (FF 412 d) H (hBlock 5 (hSeq (g7 call k [1,1,1,1,1,1,0,1,0,0,1,1]) (hLoop ag_l16 (hBlock 4 (hSeq (g7 call k [1,1,1,1,1,1,1]) (hFin Try.prog Try.f7)))))) = f7_r22 call k sg_l16 (d 5) (d 7) (d 12) H := by
  unfold f7_r22
  rw [n7_129]
  rw [s7_67]
  rw [hBlock_n]
  rw [hSeq_n]
  rw [n7_109]
  rw [s7_68]
  refine onV_c fun v1 => ?_
  rw [hLoop_n]
  generalize e : (FG 412 d [(12, v1), (101, v1), (100, (d 12)), (9, (.int .i64 1))]) = a
  rw [show a = (FF 412 (gf a)) from (FF_gf (by subst e; exact FG_len)).symm]
  exact (f7_l16_at (d := gf a) h_l16).trans (by subst e; kernel_rfl)
noncomputable def f7_g21_25 (call : Handle) (k : Nat) (sg_l16 : Sg4) (x159 : Value) (x5 x7 x9 x12 x13 : Value) (H : GH) : M (Value × GH) :=
 onBool (asB x159)
  (onV (oFieldAddr Try.prog 88 x7 1) fun v1 =>
  onV (gLoad Try.prog 86 v1 H) fun v2 =>
  onV ((oBin Try.prog .sub 3 x12 (.int .i64 1)).filter closed) fun v3 =>
  onV (oIndexAddr Try.prog 86 v2 v3) fun v4 =>
  onV (oFieldAddr Try.prog 91 v4 1) fun v5 =>
  onV (gLoad Try.prog 3 v5 H) fun v6 =>
  onV (oFieldAddr Try.prog 91 x13 1) fun v7 =>
  onV (gLoad Try.prog 3 v7 H) fun v8 =>
  onV ((oBin Try.prog .geq 3 v6 v8).filter closed) fun v9 =>
  onBool (asB v9)
  ((f7_r22 call k (sg_l16) x5 x7 x12 H))
  ((f7_r17 call k (sg_l16) x5 x7 x9 x12 H)))
  ((f7_r17 call k (sg_l16) x5 x7 x9 x12 H))
theorem f7_g21_25_true (call : Handle) (k : Nat) (ag_l16 : AG) (sg_l16 : Sg4) (h_l16 : f7_l16_P ag_l16 sg_l16) : o7 1 call [1,1,1,1,1,1,0,1,0,0,1,0,0,1,1,0] 25 (FG 412 d [(159, (.bool true)), (148, (.bool false)), (137, (.bool true))]) H ((hSeq (g7 call k [1,1,1,1,1,1,0,1,0,0,1,0,0,1,1,1]) (hBlock 5 (hSeq (g7 call k [1,1,1,1,1,1,0,1,0,0,1,1]) (hLoop ag_l16 (hBlock 4 (hSeq (g7 call k [1,1,1,1,1,1,1]) (hFin Try.prog Try.f7))))))) .normal) =
  onV (oFieldAddr Try.prog 88 (d 7) 1) fun v1 =>
  onV (gLoad Try.prog 86 v1 H) fun v2 =>
  onV ((oBin Try.prog .sub 3 (d 12) (.int .i64 1)).filter closed) fun v3 =>
  onV (oIndexAddr Try.prog 86 v2 v3) fun v4 =>
  onV (oFieldAddr Try.prog 91 v4 1) fun v5 =>
  onV (gLoad Try.prog 3 v5 H) fun v6 =>
  onV (oFieldAddr Try.prog 91 (d 13) 1) fun v7 =>
  onV (gLoad Try.prog 3 v7 H) fun v8 =>
  onV ((oBin Try.prog .geq 3 v6 v8).filter closed) fun v9 =>
  onBool (asB v9)
  ((f7_r22 call k (sg_l16) (d 5) (d 7) (d 12) H))
  ((f7_r17 call k (sg_l16) (d 5) (d 7) (d 9) (d 12) H)) := by
  rw [s7_69]
  refine onV_c fun v1 => ?_
  refine onV_c fun v2 => ?_
  refine onV_c fun v3 => ?_
  refine onV_c fun v4 => ?_
  refine onV_c fun v5 => ?_
  refine onV_c fun v6 => ?_
  refine onV_c fun v7 => ?_
  refine onV_c fun v8 => ?_
  refine onV_c fun v9 => ?_
  rw [hSeq_n]
  rw [n7_92]
  refine onBool_cc (by kernel_rfl) ?_ ?_
  · generalize e : (FG 412 d [(172, v9), (171, v9), (170, v9), (169, v9), (168, v8), (167, v7), (166, v6), (165, v5), (164, v4), (163, v3), (162, (d 12)), (161, v2), (160, v1), (159, (.bool true)), (148, (.bool false)), (137, (.bool true))]) = a
    rw [show a = (FF 412 (gf a)) from (FF_gf (by subst e; exact FG_len)).symm]
    exact (f7_r22_eq (d := gf a) call k ag_l16 sg_l16 h_l16).trans (by subst e; kernel_rfl)
  · rw [n7_93]
    rw [hBlock_n]
    rw [hSeq_n]
    generalize e : (FG 412 d [(172, v9), (171, v9), (170, v9), (169, v9), (168, v8), (167, v7), (166, v6), (165, v5), (164, v4), (163, v3), (162, (d 12)), (161, v2), (160, v1), (159, (.bool true)), (148, (.bool false)), (137, (.bool true))]) = a
    rw [show a = (FF 412 (gf a)) from (FF_gf (by subst e; exact FG_len)).symm]
    exact (f7_r17_eq (d := gf a) call k ag_l16 sg_l16 h_l16).trans (by subst e; kernel_rfl)
theorem f7_g21_25_false (call : Handle) (k : Nat) (ag_l16 : AG) (sg_l16 : Sg4) (h_l16 : f7_l16_P ag_l16 sg_l16) : o7 1 call [1,1,1,1,1,1,0,1,0,0,1,0,0,1,1,0] 25 (FG 412 d [(159, (.bool false)), (148, (.bool false)), (137, (.bool true))]) H ((hSeq (g7 call k [1,1,1,1,1,1,0,1,0,0,1,0,0,1,1,1]) (hBlock 5 (hSeq (g7 call k [1,1,1,1,1,1,0,1,0,0,1,1]) (hLoop ag_l16 (hBlock 4 (hSeq (g7 call k [1,1,1,1,1,1,1]) (hFin Try.prog Try.f7))))))) .normal) =
  (f7_r17 call k (sg_l16) (d 5) (d 7) (d 9) (d 12) H) := by
  rw [s7_70]
  rw [hSeq_n]
  rw [n7_92]
  refine (onBool_ff (by kernel_rfl)).trans ?_
  rw [n7_93]
  rw [hBlock_n]
  rw [hSeq_n]
  generalize e : (FG 412 d [(172, (.bool false)), (171, (.bool false)), (170, (.bool false)), (169, undef), (168, undef), (167, undef), (166, undef), (165, undef), (164, undef), (163, undef), (162, undef), (161, undef), (160, undef), (159, (.bool false)), (148, (.bool false)), (137, (.bool true))]) = a
  rw [show a = (FF 412 (gf a)) from (FF_gf (by subst e; exact FG_len)).symm]
  exact (f7_r17_eq (d := gf a) call k ag_l16 sg_l16 h_l16).trans (by subst e; kernel_rfl)
theorem f7_g21_25_eq (call : Handle) (k : Nat) (ag_l16 : AG) (sg_l16 : Sg4) (h_l16 : f7_l16_P ag_l16 sg_l16) : onGrd true xg (o7 1 call [1,1,1,1,1,1,0,1,0,0,1,0,0,1,1,0] 25 (FG 412 d [(159, xg), (148, (.bool false)), (137, (.bool true))]) H ((hSeq (g7 call k [1,1,1,1,1,1,0,1,0,0,1,0,0,1,1,1]) (hBlock 5 (hSeq (g7 call k [1,1,1,1,1,1,0,1,0,0,1,1]) (hLoop ag_l16 (hBlock 4 (hSeq (g7 call k [1,1,1,1,1,1,1]) (hFin Try.prog Try.f7))))))) .normal)) =
  f7_g21_25 call k sg_l16 xg (d 5) (d 7) (d 9) (d 12) (d 13) H := by
  cases xg with
  | bool b => cases b with
    | true => exact onGrd_b.trans (f7_g21_25_true call k ag_l16 sg_l16 h_l16)
    | false => exact onGrd_b.trans (f7_g21_25_false call k ag_l16 sg_l16 h_l16)
  | _ => kernel_rfl
noncomputable def f7_g21_14 (call : Handle) (k : Nat) (sg_l16 : Sg4) (x148 : Value) (x5 x7 x9 x12 x13 : Value) (H : GH) : M (Value × GH) :=
 onBool (asB x148)
  ((f7_r22 call k (sg_l16) x5 x7 x12 H))
  (onV (oFieldAddr Try.prog 88 x7 1) fun v1 =>
  onV (gLoad Try.prog 86 v1 H) fun v2 =>
  onV ((oBin Try.prog .sub 3 x12 (.int .i64 1)).filter closed) fun v3 =>
  onV (oIndexAddr Try.prog 86 v2 v3) fun v4 =>
  onV (oFieldAddr Try.prog 91 v4 0) fun v5 =>
  onV (gLoad Try.prog 3 v5 H) fun v6 =>
  onV (oFieldAddr Try.prog 91 x13 0) fun v7 =>
  onV (gLoad Try.prog 3 v7 H) fun v8 =>
  onV ((oBin Try.prog .eql 3 v6 v8).filter closed) fun v9 =>
  (f7_g21_25 call k (sg_l16) v9 x5 x7 x9 x12 x13 H))
theorem f7_g21_14_true (call : Handle) (k : Nat) (ag_l16 : AG) (sg_l16 : Sg4) (h_l16 : f7_l16_P ag_l16 sg_l16) : o7 1 call [1,1,1,1,1,1,0,1,0,0,1,0,0,1,1,0] 14 (FG 412 d [(148, (.bool true)), (137, (.bool true))]) H ((hSeq (g7 call k [1,1,1,1,1,1,0,1,0,0,1,0,0,1,1,1]) (hBlock 5 (hSeq (g7 call k [1,1,1,1,1,1,0,1,0,0,1,1]) (hLoop ag_l16 (hBlock 4 (hSeq (g7 call k [1,1,1,1,1,1,1]) (hFin Try.prog Try.f7))))))) .normal) =
  (f7_r22 call k (sg_l16) (d 5) (d 7) (d 12) H) := by
  rw [s7_56]
  rw [hSeq_n]
  rw [n7_92]
  refine (onBool_tt (by kernel_rfl)).trans ?_
  generalize e : (FG 412 d [(172, (.bool true)), (171, (.bool true)), (170, undef), (169, undef), (168, undef), (167, undef), (166, undef), (165, undef), (164, undef), (163, undef), (162, undef), (161, undef), (160, undef), (159, undef), (158, undef), (157, undef), (156, undef), (155, undef), (154, undef), (153, undef), (152, undef), (151, undef), (150, undef), (149, undef), (148, (.bool true)), (137, (.bool true))]) = a
  rw [show a = (FF 412 (gf a)) from (FF_gf (by subst e; exact FG_len)).symm]
  exact (f7_r22_eq (d := gf a) call k ag_l16 sg_l16 h_l16).trans (by subst e; kernel_rfl)
theorem f7_g21_14_false (call : Handle) (k : Nat) (ag_l16 : AG) (sg_l16 : Sg4) (h_l16 : f7_l16_P ag_l16 sg_l16) : o7 1 call [1,1,1,1,1,1,0,1,0,0,1,0,0,1,1,0] 14 (FG 412 d [(148, (.bool false)), (137, (.bool true))]) H ((hSeq (g7 call k [1,1,1,1,1,1,0,1,0,0,1,0,0,1,1,1]) (hBlock 5 (hSeq (g7 call k [1,1,1,1,1,1,0,1,0,0,1,1]) (hLoop ag_l16 (hBlock 4 (hSeq (g7 call k [1,1,1,1,1,1,1]) (hFin Try.prog Try.f7))))))) .normal) =
  onV (oFieldAddr Try.prog 88 (d 7) 1) fun v1 =>
  onV (gLoad Try.prog 86 v1 H) fun v2 =>
  onV ((oBin Try.prog .sub 3 (d 12) (.int .i64 1)).filter closed) fun v3 =>
  onV (oIndexAddr Try.prog 86 v2 v3) fun v4 =>
  onV (oFieldAddr Try.prog 91 v4 0) fun v5 =>
  onV (gLoad Try.prog 3 v5 H) fun v6 =>
  onV (oFieldAddr Try.prog 91 (d 13) 0) fun v7 =>
  onV (gLoad Try.prog 3 v7 H) fun v8 =>
  onV ((oBin Try.prog .eql 3 v6 v8).filter closed) fun v9 =>
  (f7_g21_25 call k (sg_l16) v9 (d 5) (d 7) (d 9) (d 12) (d 13) H) := by
  rw [o7_s 14 11, s7_57]
  refine onV_c fun v1 => ?_
  refine onV_c fun v2 => ?_
  refine onV_c fun v3 => ?_
  refine onV_c fun v4 => ?_
  refine onV_c fun v5 => ?_
  refine onV_c fun v6 => ?_
  refine onV_c fun v7 => ?_
  refine onV_c fun v8 => ?_
  refine onV_c fun v9 => ?_
  generalize e : (FG 412 d [(159, v9), (158, v9), (157, v8), (156, v7), (155, v6), (154, v5), (153, v4), (152, v3), (151, (d 12)), (150, v2), (149, v1), (148, (.bool false)), (137, (.bool true))]) = a
  rw [show a = (FG 412 (gf a) [(159, v9), (148, (.bool false)), (137, (.bool true))]) from (FG_eq (by subst e; exact FG_len) (FS_cons (by subst e; kernel_rfl) (FS_cons (by subst e; kernel_rfl) (FS_cons (by subst e; kernel_rfl) (FS_nil))))).symm]
  exact (f7_g21_25_eq (d := gf a) call k ag_l16 sg_l16 h_l16).trans (by subst e; kernel_rfl)
theorem f7_g21_14_eq (call : Handle) (k : Nat) (ag_l16 : AG) (sg_l16 : Sg4) (h_l16 : f7_l16_P ag_l16 sg_l16) : onGrd true xg (o7 1 call [1,1,1,1,1,1,0,1,0,0,1,0,0,1,1,0] 14 (FG 412 d [(148, xg), (137, (.bool true))]) H ((hSeq (g7 call k [1,1,1,1,1,1,0,1,0,0,1,0,0,1,1,1]) (hBlock 5 (hSeq (g7 call k [1,1,1,1,1,1,0,1,0,0,1,1]) (hLoop ag_l16 (hBlock 4 (hSeq (g7 call k [1,1,1,1,1,1,1]) (hFin Try.prog Try.f7))))))) .normal)) =
  f7_g21_14 call k sg_l16 xg (d 5) (d 7) (d 9) (d 12) (d 13) H := by
  cases xg with
  | bool b => cases b with
    | true => exact onGrd_b.trans (f7_g21_14_true call k ag_l16 sg_l16 h_l16)
    | false => exact onGrd_b.trans (f7_g21_14_false call k ag_l16 sg_l16 h_l16)
  | _ => kernel_rfl
noncomputable def f7_g21_3 (call : Handle) (k : Nat) (sg_l16 : Sg4) (x137 : Value) (x5 x7 x9 x12 x13 : Value) (H : GH) : M (Value × GH) :=
 onBool (asB x137)
  (onV (oFieldAddr Try.prog 88 x7 1) fun v1 =>
  onV (gLoad Try.prog 86 v1 H) fun v2 =>
  onV ((oBin Try.prog .sub 3 x12 (.int .i64 1)).filter closed) fun v3 =>
  onV (oIndexAddr Try.prog 86 v2 v3) fun v4 =>
  onV (oFieldAddr Try.prog 91 v4 0) fun v5 =>
  onV (gLoad Try.prog 3 v5 H) fun v6 =>
  onV (oFieldAddr Try.prog 91 x13 0) fun v7 =>
  onV (gLoad Try.prog 3 v7 H) fun v8 =>
  onV ((oBin Try.prog .gtr 3 v6 v8).filter closed) fun v9 =>
  (f7_g21_14 call k (sg_l16) v9 x5 x7 x9 x12 x13 H))
  ((f7_r17 call k (sg_l16) x5 x7 x9 x12 H))
theorem f7_g21_3_true (call : Handle) (k : Nat) (ag_l16 : AG) (sg_l16 : Sg4) (h_l16 : f7_l16_P ag_l16 sg_l16) : o7 1 call [1,1,1,1,1,1,0,1,0,0,1,0,0,1,1,0] 3 (FG 412 d [(137, (.bool true))]) H ((hSeq (g7 call k [1,1,1,1,1,1,0,1,0,0,1,0,0,1,1,1]) (hBlock 5 (hSeq (g7 call k [1,1,1,1,1,1,0,1,0,0,1,1]) (hLoop ag_l16 (hBlock 4 (hSeq (g7 call k [1,1,1,1,1,1,1]) (hFin Try.prog Try.f7))))))) .normal) =
  onV (oFieldAddr Try.prog 88 (d 7) 1) fun v1 =>
  onV (gLoad Try.prog 86 v1 H) fun v2 =>
  onV ((oBin Try.prog .sub 3 (d 12) (.int .i64 1)).filter closed) fun v3 =>
  onV (oIndexAddr Try.prog 86 v2 v3) fun v4 =>
  onV (oFieldAddr Try.prog 91 v4 0) fun v5 =>
  onV (gLoad Try.prog 3 v5 H) fun v6 =>
  onV (oFieldAddr Try.prog 91 (d 13) 0) fun v7 =>
  onV (gLoad Try.prog 3 v7 H) fun v8 =>
  onV ((oBin Try.prog .gtr 3 v6 v8).filter closed) fun v9 =>
  (f7_g21_14 call k (sg_l16) v9 (d 5) (d 7) (d 9) (d 12) (d 13) H) := by
  rw [o7_s 3 11, s7_49]
  refine onV_c fun v1 => ?_
  refine onV_c fun v2 => ?_
  refine onV_c fun v3 => ?_
  refine onV_c fun v4 => ?_
  refine onV_c fun v5 => ?_
  refine onV_c fun v6 => ?_
  refine onV_c fun v7 => ?_
  refine onV_c fun v8 => ?_
  refine onV_c fun v9 => ?_
  generalize e : (FG 412 d [(148, v9), (147, v9), (146, v8), (145, v7), (144, v6), (143, v5), (142, v4), (141, v3), (140, (d 12)), (139, v2), (138, v1), (137, (.bool true))]) = a
  rw [show a = (FG 412 (gf a) [(148, v9), (137, (.bool true))]) from (FG_eq (by subst e; exact FG_len) (FS_cons (by subst e; kernel_rfl) (FS_cons (by subst e; kernel_rfl) (FS_nil)))).symm]
  exact (f7_g21_14_eq (d := gf a) call k ag_l16 sg_l16 h_l16).trans (by subst e; kernel_rfl)
theorem f7_g21_3_false (call : Handle) (k : Nat) (ag_l16 : AG) (sg_l16 : Sg4) (h_l16 : f7_l16_P ag_l16 sg_l16) : o7 1 call [1,1,1,1,1,1,0,1,0,0,1,0,0,1,1,0] 3 (FG 412 d [(137, (.bool false))]) H ((hSeq (g7 call k [1,1,1,1,1,1,0,1,0,0,1,0,0,1,1,1]) (hBlock 5 (hSeq (g7 call k [1,1,1,1,1,1,0,1,0,0,1,1]) (hLoop ag_l16 (hBlock 4 (hSeq (g7 call k [1,1,1,1,1,1,1]) (hFin Try.prog Try.f7))))))) .normal) =
  (f7_r17 call k (sg_l16) (d 5) (d 7) (d 9) (d 12) H) := by
  rw [s7_50]
  rw [hSeq_n]
  rw [n7_92]
  refine (onBool_ff (by kernel_rfl)).trans ?_
  rw [n7_93]
  rw [hBlock_n]
  rw [hSeq_n]
  generalize e : (FG 412 d [(172, (.bool false)), (171, undef), (170, undef), (169, undef), (168, undef), (167, undef), (166, undef), (165, undef), (164, undef), (163, undef), (162, undef), (161, undef), (160, undef), (159, undef), (158, undef), (157, undef), (156, undef), (155, undef), (154, undef), (153, undef), (152, undef), (151, undef), (150, undef), (149, undef), (148, undef), (147, undef), (146, undef), (145, undef), (144, undef), (143, undef), (142, undef), (141, undef), (140, undef), (139, undef), (138, undef), (137, (.bool false))]) = a
  rw [show a = (FF 412 (gf a)) from (FF_gf (by subst e; exact FG_len)).symm]
  exact (f7_r17_eq (d := gf a) call k ag_l16 sg_l16 h_l16).trans (by subst e; kernel_rfl)
theorem f7_g21_3_eq (call : Handle) (k : Nat) (ag_l16 : AG) (sg_l16 : Sg4) (h_l16 : f7_l16_P ag_l16 sg_l16) : onGrd true xg (o7 1 call [1,1,1,1,1,1,0,1,0,0,1,0,0,1,1,0] 3 (FG 412 d [(137, xg)]) H ((hSeq (g7 call k [1,1,1,1,1,1,0,1,0,0,1,0,0,1,1,1]) (hBlock 5 (hSeq (g7 call k [1,1,1,1,1,1,0,1,0,0,1,1]) (hLoop ag_l16 (hBlock 4 (hSeq (g7 call k [1,1,1,1,1,1,1]) (hFin Try.prog Try.f7))))))) .normal)) =
  f7_g21_3 call k sg_l16 xg (d 5) (d 7) (d 9) (d 12) (d 13) H := by
  cases xg with
  | bool b => cases b with
    | true => exact onGrd_b.trans (f7_g21_3_true call k ag_l16 sg_l16 h_l16)
    | false => exact onGrd_b.trans (f7_g21_3_false call k ag_l16 sg_l16 h_l16)
  | _ => kernel_rfl
noncomputable def f7_r20 (call : Handle) (k : Nat) (sg_l16 : Sg4) (x5 x7 x12 x13 : Value) (H : GH) : M (Value × GH) :=
  onV ((oBin Try.prog .gtr 3 x12 (.int .i64 0)).filter closed) fun v1 =>
  (f7_g21_3 call k (sg_l16) v1 x5 x7 (.int .i64 1) x12 x13 H)
theorem f7_r20_eq (call : Handle) (k : Nat) (ag_l16 : AG) (sg_l16 : Sg4) (h_l16 : f7_l16_P ag_l16 sg_l16) : g7 call k [1,1,1,1,1,1,0,1,0,0,1,0,0,1,0,1,0] (FF 412 d) H (hSeq (g7 call k [1,1,1,1,1,1,0,1,0,0,1,0,0,1,1]) (hBlock 5 (hSeq (g7 call k [1,1,1,1,1,1,0,1,0,0,1,1]) (hLoop ag_l16 (hBlock 4 (hSeq (g7 call k [1,1,1,1,1,1,1]) (hFin Try.prog Try.f7))))))) = f7_r20 call k sg_l16 (d 5) (d 7) (d 12) (d 13) H := by
  unfold f7_r20
  rw [n7_77]
  rw [s7_41]
  rw [hSeq_n]
  rw [n7_78]
  rw [n7_79]
  rw [o7_s 0 3, s7_42]
  refine onV_c fun v1 => ?_
  generalize e : (FG 412 d [(137, v1), (136, v1), (135, (d 12)), (9, (.int .i64 1))]) = a
  rw [show a = (FG 412 (gf a) [(137, v1)]) from (FG_eq (by subst e; exact FG_len) (FS_cons (by subst e; kernel_rfl) (FS_nil))).symm]
  exact (f7_g21_3_eq (d := gf a) call k ag_l16 sg_l16 h_l16).trans (by subst e; kernel_rfl)
noncomputable def f7_r21 (call : Handle) (k : Nat) (sg_l16 : Sg4) (x5 x7 x9 x12 x13 : Value) (H : GH) : M (Value × GH) :=
  onV ((oBin Try.prog .gtr 3 x12 (.int .i64 0)).filter closed) fun v1 =>
  (f7_g21_3 call k (sg_l16) v1 x5 x7 x9 x12 x13 H)
theorem f7_r21_eq (call : Handle) (k : Nat) (ag_l16 : AG) (sg_l16 : Sg4) (h_l16 : f7_l16_P ag_l16 sg_l16) : g7 call k [1,1,1,1,1,1,0,1,0,0,1,0,0,1,1,0] (FF 412 d) H (hSeq (g7 call k [1,1,1,1,1,1,0,1,0,0,1,0,0,1,1,1]) (hBlock 5 (hSeq (g7 call k [1,1,1,1,1,1,0,1,0,0,1,1]) (hLoop ag_l16 (hBlock 4 (hSeq (g7 call k [1,1,1,1,1,1,1]) (hFin Try.prog Try.f7))))))) = f7_r21 call k sg_l16 (d 5) (d 7) (d 9) (d 12) (d 13) H := by
  unfold f7_r21
  rw [n7_79]
  rw [o7_s 0 3, s7_71]
  refine onV_c fun v1 => ?_
  generalize e : (FG 412 d [(137, v1), (136, v1), (135, (d 12))]) = a
  rw [show a = (FG 412 (gf a) [(137, v1)]) from (FG_eq (by subst e; exact FG_len) (FS_cons (by subst e; kernel_rfl) (FS_nil))).symm]
  exact (f7_g21_3_eq (d := gf a) call k ag_l16 sg_l16 h_l16).trans (by subst e; kernel_rfl)
noncomputable def f7_r21x (call : Handle) (k : Nat) (sg_l16 : Sg4) (x5 x7 x9 x12 x13 : Value) (H : GH) : M (Value × GH) :=
  onV ((oBin Try.prog .gtr 3 x12 (.int .i64 0)).filter closed) fun v1 =>
  (f7_g21_3 call k (sg_l16) v1 x5 x7 x9 x12 x13 H)
theorem f7_r21x_eq (call : Handle) (k : Nat) (ag_l16 : AG) (sg_l16 : Sg4) (h_l16 : f7_l16_P ag_l16 sg_l16) : g7 call k [1,1,1,1,1,1,0,1,0,0,1,0,0,1,1] (FF 412 d) H (hBlock 5 (hSeq (g7 call k [1,1,1,1,1,1,0,1,0,0,1,1]) (hLoop ag_l16 (hBlock 4 (hSeq (g7 call k [1,1,1,1,1,1,1]) (hFin Try.prog Try.f7)))))) = f7_r21x call k sg_l16 (d 5) (d 7) (d 9) (d 12) (d 13) H := by
  unfold f7_r21x
  rw [n7_78]
  rw [n7_79]
  rw [o7_s 0 3, s7_81]
  refine onV_c fun v1 => ?_
  generalize e : (FG 412 d [(137, v1), (136, v1), (135, (d 12))]) = a
  rw [show a = (FG 412 (gf a) [(137, v1)]) from (FG_eq (by subst e; exact FG_len) (FS_cons (by subst e; kernel_rfl) (FS_nil))).symm]
  exact (f7_g21_3_eq (d := gf a) call k ag_l16 sg_l16 h_l16).trans (by subst e; kernel_rfl)
noncomputable def f7_g19_24 (call : Handle) (k : Nat) (sg_l16 : Sg4) (x130 : Value) (x5 x7 x9 x12 x13 : Value) (H : GH) : M (Value × GH) :=
 onBool (asB x130)
  ((f7_r21 call k (sg_l16) x5 x7 (.int .i64 1) x12 x13 H))
  (onV (oFieldAddr Try.prog 91 x13 2) fun v1 =>
  onV (gLoad Try.prog 3 v1 H) fun v2 =>
  onV ((oBin Try.prog .gtr 3 v2 (.int .i64 1000000000)).filter closed) fun v3 =>
  onBool (asB v3)
  ((f7_r21x call k (sg_l16) x5 x7 (.int .i64 1) x12 x13 H))
  ((f7_r21x call k (sg_l16) x5 x7 x9 x12 x13 H)))
theorem f7_g19_24_true (call : Handle) (k : Nat) (ag_l16 : AG) (sg_l16 : Sg4) (h_l16 : f7_l16_P ag_l16 sg_l16) : o7 0 call [1,1,1,1,1,1,0,1,0,0,1,0,0,1,0,0] 24 (FG 412 d [(130, (.bool true))]) H ((hSeq (g7 call k [1,1,1,1,1,1,0,1,0,0,1,0,0,1,0,1]) (hSeq (g7 call k [1,1,1,1,1,1,0,1,0,0,1,0,0,1,1]) (hBlock 5 (hSeq (g7 call k [1,1,1,1,1,1,0,1,0,0,1,1]) (hLoop ag_l16 (hBlock 4 (hSeq (g7 call k [1,1,1,1,1,1,1]) (hFin Try.prog Try.f7)))))))) .normal) =
  (f7_r21 call k (sg_l16) (d 5) (d 7) (.int .i64 1) (d 12) (d 13) H) := by
  rw [s7_72]
  rw [hSeq_n]
  rw [n7_73]
  refine (onBool_tt (by kernel_rfl)).trans ?_
  rw [n7_77]
  rw [s7_73]
  rw [hSeq_n]
  rw [n7_78]
  generalize e : (FG 412 d [(9, (.int .i64 1)), (134, (.bool true)), (133, undef), (132, undef), (131, undef), (130, (.bool true))]) = a
  rw [show a = (FF 412 (gf a)) from (FF_gf (by subst e; exact FG_len)).symm]
  exact (f7_r21_eq (d := gf a) call k ag_l16 sg_l16 h_l16).trans (by subst e; kernel_rfl)
theorem f7_g19_24_false (call : Handle) (k : Nat) (ag_l16 : AG) (sg_l16 : Sg4) (h_l16 : f7_l16_P ag_l16 sg_l16) : o7 0 call [1,1,1,1,1,1,0,1,0,0,1,0,0,1,0,0] 24 (FG 412 d [(130, (.bool false))]) H ((hSeq (g7 call k [1,1,1,1,1,1,0,1,0,0,1,0,0,1,0,1]) (hSeq (g7 call k [1,1,1,1,1,1,0,1,0,0,1,0,0,1,1]) (hBlock 5 (hSeq (g7 call k [1,1,1,1,1,1,0,1,0,0,1,1]) (hLoop ag_l16 (hBlock 4 (hSeq (g7 call k [1,1,1,1,1,1,1]) (hFin Try.prog Try.f7)))))))) .normal) =
  onV (oFieldAddr Try.prog 91 (d 13) 2) fun v1 =>
  onV (gLoad Try.prog 3 v1 H) fun v2 =>
  onV ((oBin Try.prog .gtr 3 v2 (.int .i64 1000000000)).filter closed) fun v3 =>
  onBool (asB v3)
  ((f7_r21x call k (sg_l16) (d 5) (d 7) (.int .i64 1) (d 12) (d 13) H))
  ((f7_r21x call k (sg_l16) (d 5) (d 7) (d 9) (d 12) (d 13) H)) := by
  rw [s7_74]
  refine onV_c fun v1 => ?_
  refine onV_c fun v2 => ?_
  refine onV_c fun v3 => ?_
  rw [hSeq_n]
  rw [n7_73]
  refine onBool_cc (by kernel_rfl) ?_ ?_
  · rw [n7_77]
    rw [s7_75]
    rw [hSeq_n]
    generalize e : (FG 412 d [(9, (.int .i64 1)), (134, v3), (133, v3), (132, v2), (131, v1), (130, (.bool false))]) = a
    rw [show a = (FF 412 (gf a)) from (FF_gf (by subst e; exact FG_len)).symm]
    exact (f7_r21x_eq (d := gf a) call k ag_l16 sg_l16 h_l16).trans (by subst e; kernel_rfl)
  · rw [n7_130]
    rw [hSeq_n]
    generalize e : (FG 412 d [(134, v3), (133, v3), (132, v2), (131, v1), (130, (.bool false))]) = a
    rw [show a = (FF 412 (gf a)) from (FF_gf (by subst e; exact FG_len)).symm]
    exact (f7_r21x_eq (d := gf a) call k ag_l16 sg_l16 h_l16).trans (by subst e; kernel_rfl)
theorem f7_g19_24_eq (call : Handle) (k : Nat) (ag_l16 : AG) (sg_l16 : Sg4) (h_l16 : f7_l16_P ag_l16 sg_l16) : onGrd true xg (o7 0 call [1,1,1,1,1,1,0,1,0,0,1,0,0,1,0,0] 24 (FG 412 d [(130, xg)]) H ((hSeq (g7 call k [1,1,1,1,1,1,0,1,0,0,1,0,0,1,0,1]) (hSeq (g7 call k [1,1,1,1,1,1,0,1,0,0,1,0,0,1,1]) (hBlock 5 (hSeq (g7 call k [1,1,1,1,1,1,0,1,0,0,1,1]) (hLoop ag_l16 (hBlock 4 (hSeq (g7 call k [1,1,1,1,1,1,1]) (hFin Try.prog Try.f7)))))))) .normal)) =
  f7_g19_24 call k sg_l16 xg (d 5) (d 7) (d 9) (d 12) (d 13) H := by
  cases xg with
  | bool b => cases b with
    | true => exact onGrd_b.trans (f7_g19_24_true call k ag_l16 sg_l16 h_l16)
    | false => exact onGrd_b.trans (f7_g19_24_false call k ag_l16 sg_l16 h_l16)
  | _ => kernel_rfl
noncomputable def f7_g19_19 (call : Handle) (k : Nat) (sg_l16 : Sg4) (x125 : Value) (x5 x7 x9 x12 x13 : Value) (H : GH) : M (Value × GH) :=
 onBool (asB x125)
  ((f7_r21 call k (sg_l16) x5 x7 (.int .i64 1) x12 x13 H))
  (onV (oFieldAddr Try.prog 91 x13 2) fun v1 =>
  onV (gLoad Try.prog 3 v1 H) fun v2 =>
  onV ((oBin Try.prog .lss 3 v2 (.int .i64 1)).filter closed) fun v3 =>
  (f7_g19_24 call k (sg_l16) v3 x5 x7 x9 x12 x13 H))
theorem f7_g19_19_true (call : Handle) (k : Nat) (ag_l16 : AG) (sg_l16 : Sg4) (h_l16 : f7_l16_P ag_l16 sg_l16) : o7 0 call [1,1,1,1,1,1,0,1,0,0,1,0,0,1,0,0] 19 (FG 412 d [(125, (.bool true))]) H ((hSeq (g7 call k [1,1,1,1,1,1,0,1,0,0,1,0,0,1,0,1]) (hSeq (g7 call k [1,1,1,1,1,1,0,1,0,0,1,0,0,1,1]) (hBlock 5 (hSeq (g7 call k [1,1,1,1,1,1,0,1,0,0,1,1]) (hLoop ag_l16 (hBlock 4 (hSeq (g7 call k [1,1,1,1,1,1,1]) (hFin Try.prog Try.f7)))))))) .normal) =
  (f7_r21 call k (sg_l16) (d 5) (d 7) (.int .i64 1) (d 12) (d 13) H) := by
  rw [s7_59]
  rw [hSeq_n]
  rw [n7_73]
  refine (onBool_tt (by kernel_rfl)).trans ?_
  rw [n7_77]
  rw [s7_60]
  rw [hSeq_n]
  rw [n7_78]
  generalize e : (FG 412 d [(9, (.int .i64 1)), (134, (.bool true)), (133, undef), (132, undef), (131, undef), (130, (.bool true)), (129, (.bool true)), (128, undef), (127, undef), (126, undef), (125, (.bool true))]) = a
  rw [show a = (FF 412 (gf a)) from (FF_gf (by subst e; exact FG_len)).symm]
  exact (f7_r21_eq (d := gf a) call k ag_l16 sg_l16 h_l16).trans (by subst e; kernel_rfl)
theorem f7_g19_19_false (call : Handle) (k : Nat) (ag_l16 : AG) (sg_l16 : Sg4) (h_l16 : f7_l16_P ag_l16 sg_l16) : o7 0 call [1,1,1,1,1,1,0,1,0,0,1,0,0,1,0,0] 19 (FG 412 d [(125, (.bool false))]) H ((hSeq (g7 call k [1,1,1,1,1,1,0,1,0,0,1,0,0,1,0,1]) (hSeq (g7 call k [1,1,1,1,1,1,0,1,0,0,1,0,0,1,1]) (hBlock 5 (hSeq (g7 call k [1,1,1,1,1,1,0,1,0,0,1,1]) (hLoop ag_l16 (hBlock 4 (hSeq (g7 call k [1,1,1,1,1,1,1]) (hFin Try.prog Try.f7)))))))) .normal) =
  onV (oFieldAddr Try.prog 91 (d 13) 2) fun v1 =>
  onV (gLoad Try.prog 3 v1 H) fun v2 =>
  onV ((oBin Try.prog .lss 3 v2 (.int .i64 1)).filter closed) fun v3 =>
  (f7_g19_24 call k (sg_l16) v3 (d 5) (d 7) (d 9) (d 12) (d 13) H) := by
  rw [o7_s 19 5, s7_61]
  refine onV_c fun v1 => ?_
  refine onV_c fun v2 => ?_
  refine onV_c fun v3 => ?_
  generalize e : (FG 412 d [(130, v3), (129, v3), (128, v3), (127, v2), (126, v1), (125, (.bool false))]) = a
  rw [show a = (FG 412 (gf a) [(130, v3)]) from (FG_eq (by subst e; exact FG_len) (FS_cons (by subst e; kernel_rfl) (FS_nil))).symm]
  exact (f7_g19_24_eq (d := gf a) call k ag_l16 sg_l16 h_l16).trans (by subst e; kernel_rfl)
theorem f7_g19_19_eq (call : Handle) (k : Nat) (ag_l16 : AG) (sg_l16 : Sg4) (h_l16 : f7_l16_P ag_l16 sg_l16) : onGrd true xg (o7 0 call [1,1,1,1,1,1,0,1,0,0,1,0,0,1,0,0] 19 (FG 412 d [(125, xg)]) H ((hSeq (g7 call k [1,1,1,1,1,1,0,1,0,0,1,0,0,1,0,1]) (hSeq (g7 call k [1,1,1,1,1,1,0,1,0,0,1,0,0,1,1]) (hBlock 5 (hSeq (g7 call k [1,1,1,1,1,1,0,1,0,0,1,1]) (hLoop ag_l16 (hBlock 4 (hSeq (g7 call k [1,1,1,1,1,1,1]) (hFin Try.prog Try.f7)))))))) .normal)) =
  f7_g19_19 call k sg_l16 xg (d 5) (d 7) (d 9) (d 12) (d 13) H := by
  cases xg with
  | bool b => cases b with
    | true => exact onGrd_b.trans (f7_g19_19_true call k ag_l16 sg_l16 h_l16)
    | false => exact onGrd_b.trans (f7_g19_19_false call k ag_l16 sg_l16 h_l16)
  | _ => kernel_rfl
noncomputable def f7_g19_14 (call : Handle) (k : Nat) (sg_l16 : Sg4) (x120 : Value) (x5 x7 x9 x12 x13 : Value) (H : GH) : M (Value × GH) :=
 onBool (asB x120)
  ((f7_r20 call k (sg_l16) x5 x7 x12 x13 H))
  (onV (oFieldAddr Try.prog 91 x13 1) fun v1 =>
  onV (gLoad Try.prog 3 v1 H) fun v2 =>
  onV ((oBin Try.prog .gtr 3 v2 (.int .i64 1000)).filter closed) fun v3 =>
  (f7_g19_19 call k (sg_l16) v3 x5 x7 x9 x12 x13 H))
theorem f7_g19_14_true (call : Handle) (k : Nat) (ag_l16 : AG) (sg_l16 : Sg4) (h_l16 : f7_l16_P ag_l16 sg_l16) : o7 0 call [1,1,1,1,1,1,0,1,0,0,1,0,0,1,0,0] 14 (FG 412 d [(120, (.bool true))]) H ((hSeq (g7 call k [1,1,1,1,1,1,0,1,0,0,1,0,0,1,0,1]) (hSeq (g7 call k [1,1,1,1,1,1,0,1,0,0,1,0,0,1,1]) (hBlock 5 (hSeq (g7 call k [1,1,1,1,1,1,0,1,0,0,1,1]) (hLoop ag_l16 (hBlock 4 (hSeq (g7 call k [1,1,1,1,1,1,1]) (hFin Try.prog Try.f7)))))))) .normal) =
  (f7_r20 call k (sg_l16) (d 5) (d 7) (d 12) (d 13) H) := by
  rw [s7_51]
  rw [hSeq_n]
  rw [n7_73]
  refine (onBool_tt (by kernel_rfl)).trans ?_
  generalize e : (FG 412 d [(134, (.bool true)), (133, undef), (132, undef), (131, undef), (130, (.bool true)), (129, (.bool true)), (128, undef), (127, undef), (126, undef), (125, (.bool true)), (124, (.bool true)), (123, undef), (122, undef), (121, undef), (120, (.bool true))]) = a
  rw [show a = (FF 412 (gf a)) from (FF_gf (by subst e; exact FG_len)).symm]
  exact (f7_r20_eq (d := gf a) call k ag_l16 sg_l16 h_l16).trans (by subst e; kernel_rfl)
theorem f7_g19_14_false (call : Handle) (k : Nat) (ag_l16 : AG) (sg_l16 : Sg4) (h_l16 : f7_l16_P ag_l16 sg_l16) : o7 0 call [1,1,1,1,1,1,0,1,0,0,1,0,0,1,0,0] 14 (FG 412 d [(120, (.bool false))]) H ((hSeq (g7 call k [1,1,1,1,1,1,0,1,0,0,1,0,0,1,0,1]) (hSeq (g7 call k [1,1,1,1,1,1,0,1,0,0,1,0,0,1,1]) (hBlock 5 (hSeq (g7 call k [1,1,1,1,1,1,0,1,0,0,1,1]) (hLoop ag_l16 (hBlock 4 (hSeq (g7 call k [1,1,1,1,1,1,1]) (hFin Try.prog Try.f7)))))))) .normal) =
  onV (oFieldAddr Try.prog 91 (d 13) 1) fun v1 =>
  onV (gLoad Try.prog 3 v1 H) fun v2 =>
  onV ((oBin Try.prog .gtr 3 v2 (.int .i64 1000)).filter closed) fun v3 =>
  (f7_g19_19 call k (sg_l16) v3 (d 5) (d 7) (d 9) (d 12) (d 13) H) := by
  rw [o7_s 14 5, s7_52]
  refine onV_c fun v1 => ?_
  refine onV_c fun v2 => ?_
  refine onV_c fun v3 => ?_
  generalize e : (FG 412 d [(125, v3), (124, v3), (123, v3), (122, v2), (121, v1), (120, (.bool false))]) = a
  rw [show a = (FG 412 (gf a) [(125, v3)]) from (FG_eq (by subst e; exact FG_len) (FS_cons (by subst e; kernel_rfl) (FS_nil))).symm]
  exact (f7_g19_19_eq (d := gf a) call k ag_l16 sg_l16 h_l16).trans (by subst e; kernel_rfl)
theorem f7_g19_14_eq (call : Handle) (k : Nat) (ag_l16 : AG) (sg_l16 : Sg4) (h_l16 : f7_l16_P ag_l16 sg_l16) : onGrd true xg (o7 0 call [1,1,1,1,1,1,0,1,0,0,1,0,0,1,0,0] 14 (FG 412 d [(120, xg)]) H ((hSeq (g7 call k [1,1,1,1,1,1,0,1,0,0,1,0,0,1,0,1]) (hSeq (g7 call k [1,1,1,1,1,1,0,1,0,0,1,0,0,1,1]) (hBlock 5 (hSeq (g7 call k [1,1,1,1,1,1,0,1,0,0,1,1]) (hLoop ag_l16 (hBlock 4 (hSeq (g7 call k [1,1,1,1,1,1,1]) (hFin Try.prog Try.f7)))))))) .normal)) =
  f7_g19_14 call k sg_l16 xg (d 5) (d 7) (d 9) (d 12) (d 13) H := by
  cases xg with
  | bool b => cases b with
    | true => exact onGrd_b.trans (f7_g19_14_true call k ag_l16 sg_l16 h_l16)
    | false => exact onGrd_b.trans (f7_g19_14_false call k ag_l16 sg_l16 h_l16)
  | _ => kernel_rfl
noncomputable def f7_g19_9 (call : Handle) (k : Nat) (sg_l16 : Sg4) (x115 : Value) (x5 x7 x9 x12 x13 : Value) (H : GH) : M (Value × GH) :=
 onBool (asB x115)
  ((f7_r20 call k (sg_l16) x5 x7 x12 x13 H))
  (onV (oFieldAddr Try.prog 91 x13 1) fun v1 =>
  onV (gLoad Try.prog 3 v1 H) fun v2 =>
  onV ((oBin Try.prog .lss 3 v2 (.int .i64 1)).filter closed) fun v3 =>
  (f7_g19_14 call k (sg_l16) v3 x5 x7 x9 x12 x13 H))
theorem f7_g19_9_true (call : Handle) (k : Nat) (ag_l16 : AG) (sg_l16 : Sg4) (h_l16 : f7_l16_P ag_l16 sg_l16) : o7 0 call [1,1,1,1,1,1,0,1,0,0,1,0,0,1,0,0] 9 (FG 412 d [(115, (.bool true))]) H ((hSeq (g7 call k [1,1,1,1,1,1,0,1,0,0,1,0,0,1,0,1]) (hSeq (g7 call k [1,1,1,1,1,1,0,1,0,0,1,0,0,1,1]) (hBlock 5 (hSeq (g7 call k [1,1,1,1,1,1,0,1,0,0,1,1]) (hLoop ag_l16 (hBlock 4 (hSeq (g7 call k [1,1,1,1,1,1,1]) (hFin Try.prog Try.f7)))))))) .normal) =
  (f7_r20 call k (sg_l16) (d 5) (d 7) (d 12) (d 13) H) := by
  rw [s7_43]
  rw [hSeq_n]
  rw [n7_73]
  refine (onBool_tt (by kernel_rfl)).trans ?_
  generalize e : (FG 412 d [(134, (.bool true)), (133, undef), (132, undef), (131, undef), (130, (.bool true)), (129, (.bool true)), (128, undef), (127, undef), (126, undef), (125, (.bool true)), (124, (.bool true)), (123, undef), (122, undef), (121, undef), (120, (.bool true)), (119, (.bool true)), (118, undef), (117, undef), (116, undef), (115, (.bool true))]) = a
  rw [show a = (FF 412 (gf a)) from (FF_gf (by subst e; exact FG_len)).symm]
  exact (f7_r20_eq (d := gf a) call k ag_l16 sg_l16 h_l16).trans (by subst e; kernel_rfl)
theorem f7_g19_9_false (call : Handle) (k : Nat) (ag_l16 : AG) (sg_l16 : Sg4) (h_l16 : f7_l16_P ag_l16 sg_l16) : o7 0 call [1,1,1,1,1,1,0,1,0,0,1,0,0,1,0,0] 9 (FG 412 d [(115, (.bool false))]) H ((hSeq (g7 call k [1,1,1,1,1,1,0,1,0,0,1,0,0,1,0,1]) (hSeq (g7 call k [1,1,1,1,1,1,0,1,0,0,1,0,0,1,1]) (hBlock 5 (hSeq (g7 call k [1,1,1,1,1,1,0,1,0,0,1,1]) (hLoop ag_l16 (hBlock 4 (hSeq (g7 call k [1,1,1,1,1,1,1]) (hFin Try.prog Try.f7)))))))) .normal) =
  onV (oFieldAddr Try.prog 91 (d 13) 1) fun v1 =>
  onV (gLoad Try.prog 3 v1 H) fun v2 =>
  onV ((oBin Try.prog .lss 3 v2 (.int .i64 1)).filter closed) fun v3 =>
  (f7_g19_14 call k (sg_l16) v3 (d 5) (d 7) (d 9) (d 12) (d 13) H) := by
  rw [o7_s 9 5, s7_44]
  refine onV_c fun v1 => ?_
  refine onV_c fun v2 => ?_
  refine onV_c fun v3 => ?_
  generalize e : (FG 412 d [(120, v3), (119, v3), (118, v3), (117, v2), (116, v1), (115, (.bool false))]) = a
  rw [show a = (FG 412 (gf a) [(120, v3)]) from (FG_eq (by subst e; exact FG_len) (FS_cons (by subst e; kernel_rfl) (FS_nil))).symm]
  exact (f7_g19_14_eq (d := gf a) call k ag_l16 sg_l16 h_l16).trans (by subst e; kernel_rfl)
theorem f7_g19_9_eq (call : Handle) (k : Nat) (ag_l16 : AG) (sg_l16 : Sg4) (h_l16 : f7_l16_P ag_l16 sg_l16) : onGrd true xg (o7 0 call [1,1,1,1,1,1,0,1,0,0,1,0,0,1,0,0] 9 (FG 412 d [(115, xg)]) H ((hSeq (g7 call k [1,1,1,1,1,1,0,1,0,0,1,0,0,1,0,1]) (hSeq (g7 call k [1,1,1,1,1,1,0,1,0,0,1,0,0,1,1]) (hBlock 5 (hSeq (g7 call k [1,1,1,1,1,1,0,1,0,0,1,1]) (hLoop ag_l16 (hBlock 4 (hSeq (g7 call k [1,1,1,1,1,1,1]) (hFin Try.prog Try.f7)))))))) .normal)) =
  f7_g19_9 call k sg_l16 xg (d 5) (d 7) (d 9) (d 12) (d 13) H := by
  cases xg with
  | bool b => cases b with
    | true => exact onGrd_b.trans (f7_g19_9_true call k ag_l16 sg_l16 h_l16)
    | false => exact onGrd_b.trans (f7_g19_9_false call k ag_l16 sg_l16 h_l16)
  | _ => kernel_rfl
noncomputable def f7_g19_4 (call : Handle) (k : Nat) (sg_l16 : Sg4) (x110 : Value) (x5 x7 x9 x12 x13 : Value) (H : GH) : M (Value × GH) :=
 onBool (asB x110)
  ((f7_r20 call k (sg_l16) x5 x7 x12 x13 H))
  (onV (oFieldAddr Try.prog 91 x13 0) fun v1 =>
  onV (gLoad Try.prog 3 v1 H) fun v2 =>
  onV ((oBin Try.prog .gtr 3 v2 (.int .i64 100000)).filter closed) fun v3 =>
  (f7_g19_9 call k (sg_l16) v3 x5 x7 x9 x12 x13 H))
theorem f7_g19_4_true (call : Handle) (k : Nat) (ag_l16 : AG) (sg_l16 : Sg4) (h_l16 : f7_l16_P ag_l16 sg_l16) : o7 0 call [1,1,1,1,1,1,0,1,0,0,1,0,0,1,0,0] 4 (FG 412 d [(110, (.bool true))]) H ((hSeq (g7 call k [1,1,1,1,1,1,0,1,0,0,1,0,0,1,0,1]) (hSeq (g7 call k [1,1,1,1,1,1,0,1,0,0,1,0,0,1,1]) (hBlock 5 (hSeq (g7 call k [1,1,1,1,1,1,0,1,0,0,1,1]) (hLoop ag_l16 (hBlock 4 (hSeq (g7 call k [1,1,1,1,1,1,1]) (hFin Try.prog Try.f7)))))))) .normal) =
  (f7_r20 call k (sg_l16) (d 5) (d 7) (d 12) (d 13) H) := by
  rw [s7_38]
  rw [hSeq_n]
  rw [n7_73]
  refine (onBool_tt (by kernel_rfl)).trans ?_
  generalize e : (FG 412 d [(134, (.bool true)), (133, undef), (132, undef), (131, undef), (130, (.bool true)), (129, (.bool true)), (128, undef), (127, undef), (126, undef), (125, (.bool true)), (124, (.bool true)), (123, undef), (122, undef), (121, undef), (120, (.bool true)), (119, (.bool true)), (118, undef), (117, undef), (116, undef), (115, (.bool true)), (114, (.bool true)), (113, undef), (112, undef), (111, undef), (110, (.bool true))]) = a
  rw [show a = (FF 412 (gf a)) from (FF_gf (by subst e; exact FG_len)).symm]
  exact (f7_r20_eq (d := gf a) call k ag_l16 sg_l16 h_l16).trans (by subst e; kernel_rfl)
theorem f7_g19_4_false (call : Handle) (k : Nat) (ag_l16 : AG) (sg_l16 : Sg4) (h_l16 : f7_l16_P ag_l16 sg_l16) : o7 0 call [1,1,1,1,1,1,0,1,0,0,1,0,0,1,0,0] 4 (FG 412 d [(110, (.bool false))]) H ((hSeq (g7 call k [1,1,1,1,1,1,0,1,0,0,1,0,0,1,0,1]) (hSeq (g7 call k [1,1,1,1,1,1,0,1,0,0,1,0,0,1,1]) (hBlock 5 (hSeq (g7 call k [1,1,1,1,1,1,0,1,0,0,1,1]) (hLoop ag_l16 (hBlock 4 (hSeq (g7 call k [1,1,1,1,1,1,1]) (hFin Try.prog Try.f7)))))))) .normal) =
  onV (oFieldAddr Try.prog 91 (d 13) 0) fun v1 =>
  onV (gLoad Try.prog 3 v1 H) fun v2 =>
  onV ((oBin Try.prog .gtr 3 v2 (.int .i64 100000)).filter closed) fun v3 =>
  (f7_g19_9 call k (sg_l16) v3 (d 5) (d 7) (d 9) (d 12) (d 13) H) := by
  rw [o7_s 4 5, s7_39]
  refine onV_c fun v1 => ?_
  refine onV_c fun v2 => ?_
  refine onV_c fun v3 => ?_
  generalize e : (FG 412 d [(115, v3), (114, v3), (113, v3), (112, v2), (111, v1), (110, (.bool false))]) = a
  rw [show a = (FG 412 (gf a) [(115, v3)]) from (FG_eq (by subst e; exact FG_len) (FS_cons (by subst e; kernel_rfl) (FS_nil))).symm]
  exact (f7_g19_9_eq (d := gf a) call k ag_l16 sg_l16 h_l16).trans (by subst e; kernel_rfl)
theorem f7_g19_4_eq (call : Handle) (k : Nat) (ag_l16 : AG) (sg_l16 : Sg4) (h_l16 : f7_l16_P ag_l16 sg_l16) : onGrd true xg (o7 0 call [1,1,1,1,1,1,0,1,0,0,1,0,0,1,0,0] 4 (FG 412 d [(110, xg)]) H ((hSeq (g7 call k [1,1,1,1,1,1,0,1,0,0,1,0,0,1,0,1]) (hSeq (g7 call k [1,1,1,1,1,1,0,1,0,0,1,0,0,1,1]) (hBlock 5 (hSeq (g7 call k [1,1,1,1,1,1,0,1,0,0,1,1]) (hLoop ag_l16 (hBlock 4 (hSeq (g7 call k [1,1,1,1,1,1,1]) (hFin Try.prog Try.f7)))))))) .normal)) =
  f7_g19_4 call k sg_l16 xg (d 5) (d 7) (d 9) (d 12) (d 13) H := by
  cases xg with
  | bool b => cases b with
    | true => exact onGrd_b.trans (f7_g19_4_true call k ag_l16 sg_l16 h_l16)
    | false => exact onGrd_b.trans (f7_g19_4_false call k ag_l16 sg_l16 h_l16)
  | _ => kernel_rfl
noncomputable def f7_r19 (call : Handle) (k : Nat) (sg_l16 : Sg4) (x5 x7 x9 x12 x13 : Value) (H : GH) : M (Value × GH) :=
  onV (oFieldAddr Try.prog 91 x13 0) fun v1 =>
  onV (gLoad Try.prog 3 v1 H) fun v2 =>
  onV ((oBin Try.prog .lss 3 v2 (.int .i64 1)).filter closed) fun v3 =>
  (f7_g19_4 call k (sg_l16) v3 x5 x7 x9 x12 x13 H)
theorem f7_r19_eq (call : Handle) (k : Nat) (ag_l16 : AG) (sg_l16 : Sg4) (h_l16 : f7_l16_P ag_l16 sg_l16) : g7 call k [1,1,1,1,1,1,0,1,0,0,1,0,0,1,0,0] (FF 412 d) H (hSeq (g7 call k [1,1,1,1,1,1,0,1,0,0,1,0,0,1,0,1]) (hSeq (g7 call k [1,1,1,1,1,1,0,1,0,0,1,0,0,1,1]) (hBlock 5 (hSeq (g7 call k [1,1,1,1,1,1,0,1,0,0,1,1]) (hLoop ag_l16 (hBlock 4 (hSeq (g7 call k [1,1,1,1,1,1,1]) (hFin Try.prog Try.f7)))))))) = f7_r19 call k sg_l16 (d 5) (d 7) (d 9) (d 12) (d 13) H := by
  unfold f7_r19
  rw [n7_66]
  rw [o7_s 0 4, s7_29]
  refine onV_c fun v1 => ?_
  refine onV_c fun v2 => ?_
  refine onV_c fun v3 => ?_
  generalize e : (FG 412 d [(110, v3), (109, v3), (108, v2), (107, v1)]) = a
  rw [show a = (FG 412 (gf a) [(110, v3)]) from (FG_eq (by subst e; exact FG_len) (FS_cons (by subst e; kernel_rfl) (FS_nil))).symm]
  exact (f7_g19_4_eq (d := gf a) call k ag_l16 sg_l16 h_l16).trans (by subst e; kernel_rfl)
noncomputable def f7_g50_48 (call : Handle) (k : Nat) (x354 : Value) (H : GH) : M (Value × GH) :=
 onBool (asB x354)
  (onCall 0 call (.func (.func 33) #[] #[]) [] H fun v1 H2 =>
  some [(v1, H2)])
  (some [((.bool false), H)])
theorem f7_g50_48_true (call : Handle) (k : Nat) : o7 0 call [1,1,1,1,1,1,1,1,1,1,1,1,1,1,1,1,0,1,0,0] 48 (FG 412 d [(354, (.bool true))]) H ((hSeq (g7 call k [1,1,1,1,1,1,1,1,1,1,1,1,1,1,1,1,0,1,0,1]) (hSeq (g7 call k [1,1,1,1,1,1,1,1,1,1,1,1,1,1,1,1,1]) (hFin Try.prog Try.f7))) .normal) =
  onCall 0 call (.func (.func 33) #[] #[]) [] H fun v1 H2 =>
  some [(v1, H2)] := by
  rw [s7_141]
  refine onCall_c fun v1 H2 => ?_
  rw [hSeq_n]
  rw [n7_186]
  rw [hSeq_r]
  kernel_rfl
theorem f7_g50_48_false (call : Handle) (k : Nat) : o7 0 call [1,1,1,1,1,1,1,1,1,1,1,1,1,1,1,1,0,1,0,0] 48 (FG 412 d [(354, (.bool false))]) H ((hSeq (g7 call k [1,1,1,1,1,1,1,1,1,1,1,1,1,1,1,1,0,1,0,1]) (hSeq (g7 call k [1,1,1,1,1,1,1,1,1,1,1,1,1,1,1,1,1]) (hFin Try.prog Try.f7))) .normal) =
  some [((.bool false), H)] := by
  rw [s7_142]
  rw [hSeq_n]
  rw [n7_186]
  rw [hSeq_r]
  kernel_rfl
theorem f7_g50_48_eq (call : Handle) (k : Nat) : onGrd true xg (o7 0 call [1,1,1,1,1,1,1,1,1,1,1,1,1,1,1,1,0,1,0,0] 48 (FG 412 d [(354, xg)]) H ((hSeq (g7 call k [1,1,1,1,1,1,1,1,1,1,1,1,1,1,1,1,0,1,0,1]) (hSeq (g7 call k [1,1,1,1,1,1,1,1,1,1,1,1,1,1,1,1,1]) (hFin Try.prog Try.f7))) .normal)) =
  f7_g50_48 call k xg H := by
  cases xg with
  | bool b => cases b with
    | true => exact onGrd_b.trans (f7_g50_48_true call k)
    | false => exact onGrd_b.trans (f7_g50_48_false call k)
  | _ => kernel_rfl
noncomputable def f7_g50_40 (call : Handle) (k : Nat) (x346 : Value) (x5 x7 : Value) (H : GH) : M (Value × GH) :=
 onBool (asB x346)
  (onV (gLoad Try.prog 88 x7 H) fun v1 =>
  onV (gLoad Try.prog 91 x5 H) fun v2 =>
  onVH (gBuildSlice Try.prog 86 1 [(0, v2)] H) fun v3 H4 =>
  onCall 0 call (.func (.func 40) #[] #[]) [v1, v3] H4 fun v5 H6 =>
  onV (oLen Try.prog 85 v5) fun v7 =>
  onV ((oBin Try.prog .eql 3 v7 (.int .i64 0)).filter closed) fun v8 =>
  (f7_g50_48 call k v8 H6))
  (some [((.bool false), H)])
theorem f7_g50_40_true (call : Handle) (k : Nat) : o7 0 call [1,1,1,1,1,1,1,1,1,1,1,1,1,1,1,1,0,1,0,0] 40 (FG 412 d [(346, (.bool true))]) H ((hSeq (g7 call k [1,1,1,1,1,1,1,1,1,1,1,1,1,1,1,1,0,1,0,1]) (hSeq (g7 call k [1,1,1,1,1,1,1,1,1,1,1,1,1,1,1,1,1]) (hFin Try.prog Try.f7))) .normal) =
  onV (gLoad Try.prog 88 (d 7) H) fun v1 =>
  onV (gLoad Try.prog 91 (d 5) H) fun v2 =>
  onVH (gBuildSlice Try.prog 86 1 [(0, v2)] H) fun v3 H4 =>
  onCall 0 call (.func (.func 40) #[] #[]) [v1, v3] H4 fun v5 H6 =>
  onV (oLen Try.prog 85 v5) fun v7 =>
  onV ((oBin Try.prog .eql 3 v7 (.int .i64 0)).filter closed) fun v8 =>
  (f7_g50_48 call k v8 H6) := by
  rw [o7_s 40 8, s7_137]
  refine onV_c fun v1 => ?_
  refine onV_c fun v2 => ?_
  refine onVH_c fun v3 H4 => ?_
  refine onCall_c fun v5 H6 => ?_
  refine onV_c fun v7 => ?_
  refine onV_c fun v8 => ?_
  generalize e : (FG 412 d [(354, v8), (353, v8), (352, v8), (351, v7), (350, v5), (349, v3), (348, v2), (347, v1), (346, (.bool true))]) = a
  rw [show a = (FG 412 (gf a) [(354, v8)]) from (FG_eq (by subst e; exact FG_len) (FS_cons (by subst e; kernel_rfl) (FS_nil))).symm]
  exact (f7_g50_48_eq (d := gf a) call k).trans (by subst e; kernel_rfl)
theorem f7_g50_40_false (call : Handle) (k : Nat) : o7 0 call [1,1,1,1,1,1,1,1,1,1,1,1,1,1,1,1,0,1,0,0] 40 (FG 412 d [(346, (.bool false))]) H ((hSeq (g7 call k [1,1,1,1,1,1,1,1,1,1,1,1,1,1,1,1,0,1,0,1]) (hSeq (g7 call k [1,1,1,1,1,1,1,1,1,1,1,1,1,1,1,1,1]) (hFin Try.prog Try.f7))) .normal) =
  some [((.bool false), H)] := by
  rw [s7_138]
  rw [hSeq_n]
  rw [n7_186]
  rw [hSeq_r]
  kernel_rfl
theorem f7_g50_40_eq (call : Handle) (k : Nat) : onGrd true xg (o7 0 call [1,1,1,1,1,1,1,1,1,1,1,1,1,1,1,1,0,1,0,0] 40 (FG 412 d [(346, xg)]) H ((hSeq (g7 call k [1,1,1,1,1,1,1,1,1,1,1,1,1,1,1,1,0,1,0,1]) (hSeq (g7 call k [1,1,1,1,1,1,1,1,1,1,1,1,1,1,1,1,1]) (hFin Try.prog Try.f7))) .normal)) =
  f7_g50_40 call k xg (d 5) (d 7) H := by
  cases xg with
  | bool b => cases b with
    | true => exact onGrd_b.trans (f7_g50_40_true call k)
    | false => exact onGrd_b.trans (f7_g50_40_false call k)
  | _ => kernel_rfl
noncomputable def f7_g50_33 (call : Handle) (k : Nat) (x339 : Value) (x5 x7 : Value) (H : GH) : M (Value × GH) :=
 onBool (asB x339)
  (onV (gLoad Try.prog 88 x7 H) fun v1 =>
  onV (oFieldAddr Try.prog 91 x5 1) fun v2 =>
  onV (gLoad Try.prog 3 v2 H) fun v3 =>
  onCall 0 call (.func (.func 39) #[] #[]) [v1, v3] H fun v4 H5 =>
  onV ((oBin Try.prog .eql 3 v4 (.int .i64 0)).filter closed) fun v6 =>
  (f7_g50_40 call k v6 x5 x7 H5))
  (some [((.bool false), H)])
theorem f7_g50_33_true (call : Handle) (k : Nat) : o7 0 call [1,1,1,1,1,1,1,1,1,1,1,1,1,1,1,1,0,1,0,0] 33 (FG 412 d [(339, (.bool true))]) H ((hSeq (g7 call k [1,1,1,1,1,1,1,1,1,1,1,1,1,1,1,1,0,1,0,1]) (hSeq (g7 call k [1,1,1,1,1,1,1,1,1,1,1,1,1,1,1,1,1]) (hFin Try.prog Try.f7))) .normal) =
  onV (gLoad Try.prog 88 (d 7) H) fun v1 =>
  onV (oFieldAddr Try.prog 91 (d 5) 1) fun v2 =>
  onV (gLoad Try.prog 3 v2 H) fun v3 =>
  onCall 0 call (.func (.func 39) #[] #[]) [v1, v3] H fun v4 H5 =>
  onV ((oBin Try.prog .eql 3 v4 (.int .i64 0)).filter closed) fun v6 =>
  (f7_g50_40 call k v6 (d 5) (d 7) H5) := by
  rw [o7_s 33 7, s7_133]
  refine onV_c fun v1 => ?_
  refine onV_c fun v2 => ?_
  refine onV_c fun v3 => ?_
  refine onCall_c fun v4 H5 => ?_
  refine onV_c fun v6 => ?_
  generalize e : (FG 412 d [(346, v6), (345, v6), (344, v6), (343, v4), (342, v3), (341, v2), (340, v1), (339, (.bool true))]) = a
  rw [show a = (FG 412 (gf a) [(346, v6)]) from (FG_eq (by subst e; exact FG_len) (FS_cons (by subst e; kernel_rfl) (FS_nil))).symm]
  exact (f7_g50_40_eq (d := gf a) call k).trans (by subst e; kernel_rfl)
theorem f7_g50_33_false (call : Handle) (k : Nat) : o7 0 call [1,1,1,1,1,1,1,1,1,1,1,1,1,1,1,1,0,1,0,0] 33 (FG 412 d [(339, (.bool false))]) H ((hSeq (g7 call k [1,1,1,1,1,1,1,1,1,1,1,1,1,1,1,1,0,1,0,1]) (hSeq (g7 call k [1,1,1,1,1,1,1,1,1,1,1,1,1,1,1,1,1]) (hFin Try.prog Try.f7))) .normal) =
  some [((.bool false), H)] := by
  rw [s7_134]
  rw [hSeq_n]
  rw [n7_186]
  rw [hSeq_r]
  kernel_rfl
theorem f7_g50_33_eq (call : Handle) (k : Nat) : onGrd true xg (o7 0 call [1,1,1,1,1,1,1,1,1,1,1,1,1,1,1,1,0,1,0,0] 33 (FG 412 d [(339, xg)]) H ((hSeq (g7 call k [1,1,1,1,1,1,1,1,1,1,1,1,1,1,1,1,0,1,0,1]) (hSeq (g7 call k [1,1,1,1,1,1,1,1,1,1,1,1,1,1,1,1,1]) (hFin Try.prog Try.f7))) .normal)) =
  f7_g50_33 call k xg (d 5) (d 7) H := by
  cases xg with
  | bool b => cases b with
    | true => exact onGrd_b.trans (f7_g50_33_true call k)
    | false => exact onGrd_b.trans (f7_g50_33_false call k)
  | _ => kernel_rfl
noncomputable def f7_g50_23 (call : Handle) (k : Nat) (x329 : Value) (x5 x7 x20 x22 : Value) (H : GH) : M (Value × GH) :=
 onBool (asB x329)
  (onV (oFieldAddr Try.prog 88 x20 0) fun v1 =>
  onV (gLoad Try.prog 85 v1 H) fun v2 =>
  onV (oLen Try.prog 85 v2) fun v3 =>
  onV (oFieldAddr Try.prog 88 x22 0) fun v4 =>
  onV (gLoad Try.prog 85 v4 H) fun v5 =>
  onV (oLen Try.prog 85 v5) fun v6 =>
  onV ((oBin Try.prog .add 3 v3 v6).filter closed) fun v7 =>
  onV ((oBin Try.prog .eql 3 v7 (.int .i64 0)).filter closed) fun v8 =>
  (f7_g50_33 call k v8 x5 x7 H))
  (some [((.bool false), H)])
theorem f7_g50_23_true (call : Handle) (k : Nat) : o7 0 call [1,1,1,1,1,1,1,1,1,1,1,1,1,1,1,1,0,1,0,0] 23 (FG 412 d [(329, (.bool true))]) H ((hSeq (g7 call k [1,1,1,1,1,1,1,1,1,1,1,1,1,1,1,1,0,1,0,1]) (hSeq (g7 call k [1,1,1,1,1,1,1,1,1,1,1,1,1,1,1,1,1]) (hFin Try.prog Try.f7))) .normal) =
  onV (oFieldAddr Try.prog 88 (d 20) 0) fun v1 =>
  onV (gLoad Try.prog 85 v1 H) fun v2 =>
  onV (oLen Try.prog 85 v2) fun v3 =>
  onV (oFieldAddr Try.prog 88 (d 22) 0) fun v4 =>
  onV (gLoad Try.prog 85 v4 H) fun v5 =>
  onV (oLen Try.prog 85 v5) fun v6 =>
  onV ((oBin Try.prog .add 3 v3 v6).filter closed) fun v7 =>
  onV ((oBin Try.prog .eql 3 v7 (.int .i64 0)).filter closed) fun v8 =>
  (f7_g50_33 call k v8 (d 5) (d 7) H) := by
  rw [o7_s 23 10, s7_129]
  refine onV_c fun v1 => ?_
  refine onV_c fun v2 => ?_
  refine onV_c fun v3 => ?_
  refine onV_c fun v4 => ?_
  refine onV_c fun v5 => ?_
  refine onV_c fun v6 => ?_
  refine onV_c fun v7 => ?_
  refine onV_c fun v8 => ?_
  generalize e : (FG 412 d [(339, v8), (338, v8), (337, v8), (336, v7), (335, v6), (334, v5), (333, v4), (332, v3), (331, v2), (330, v1), (329, (.bool true))]) = a
  rw [show a = (FG 412 (gf a) [(339, v8)]) from (FG_eq (by subst e; exact FG_len) (FS_cons (by subst e; kernel_rfl) (FS_nil))).symm]
  exact (f7_g50_33_eq (d := gf a) call k).trans (by subst e; kernel_rfl)
theorem f7_g50_23_false (call : Handle) (k : Nat) : o7 0 call [1,1,1,1,1,1,1,1,1,1,1,1,1,1,1,1,0,1,0,0] 23 (FG 412 d [(329, (.bool false))]) H ((hSeq (g7 call k [1,1,1,1,1,1,1,1,1,1,1,1,1,1,1,1,0,1,0,1]) (hSeq (g7 call k [1,1,1,1,1,1,1,1,1,1,1,1,1,1,1,1,1]) (hFin Try.prog Try.f7))) .normal) =
  some [((.bool false), H)] := by
  rw [s7_130]
  rw [hSeq_n]
  rw [n7_186]
  rw [hSeq_r]
  kernel_rfl
theorem f7_g50_23_eq (call : Handle) (k : Nat) : onGrd true xg (o7 0 call [1,1,1,1,1,1,1,1,1,1,1,1,1,1,1,1,0,1,0,0] 23 (FG 412 d [(329, xg)]) H ((hSeq (g7 call k [1,1,1,1,1,1,1,1,1,1,1,1,1,1,1,1,0,1,0,1]) (hSeq (g7 call k [1,1,1,1,1,1,1,1,1,1,1,1,1,1,1,1,1]) (hFin Try.prog Try.f7))) .normal)) =
  f7_g50_23 call k xg (d 5) (d 7) (d 20) (d 22) H := by
  cases xg with
  | bool b => cases b with
    | true => exact onGrd_b.trans (f7_g50_23_true call k)
    | false => exact onGrd_b.trans (f7_g50_23_false call k)
  | _ => kernel_rfl
noncomputable def f7_g50_19 (call : Handle) (k : Nat) (x325 : Value) (x5 x7 x20 x22 x27 : Value) (H : GH) : M (Value × GH) :=
 onBool (asB x325)
  (onV ((oBin Try.prog .eql 3 x27 (.int .i64 0)).filter closed) fun v1 =>
  (f7_g50_23 call k v1 x5 x7 x20 x22 H))
  (some [((.bool false), H)])
theorem f7_g50_19_true (call : Handle) (k : Nat) : o7 0 call [1,1,1,1,1,1,1,1,1,1,1,1,1,1,1,1,0,1,0,0] 19 (FG 412 d [(325, (.bool true))]) H ((hSeq (g7 call k [1,1,1,1,1,1,1,1,1,1,1,1,1,1,1,1,0,1,0,1]) (hSeq (g7 call k [1,1,1,1,1,1,1,1,1,1,1,1,1,1,1,1,1]) (hFin Try.prog Try.f7))) .normal) =
  onV ((oBin Try.prog .eql 3 (d 27) (.int .i64 0)).filter closed) fun v1 =>
  (f7_g50_23 call k v1 (d 5) (d 7) (d 20) (d 22) H) := by
  rw [o7_s 19 4, s7_125]
  refine onV_c fun v1 => ?_
  generalize e : (FG 412 d [(329, v1), (328, v1), (327, v1), (326, (d 27)), (325, (.bool true))]) = a
  rw [show a = (FG 412 (gf a) [(329, v1)]) from (FG_eq (by subst e; exact FG_len) (FS_cons (by subst e; kernel_rfl) (FS_nil))).symm]
  exact (f7_g50_23_eq (d := gf a) call k).trans (by subst e; kernel_rfl)
theorem f7_g50_19_false (call : Handle) (k : Nat) : o7 0 call [1,1,1,1,1,1,1,1,1,1,1,1,1,1,1,1,0,1,0,0] 19 (FG 412 d [(325, (.bool false))]) H ((hSeq (g7 call k [1,1,1,1,1,1,1,1,1,1,1,1,1,1,1,1,0,1,0,1]) (hSeq (g7 call k [1,1,1,1,1,1,1,1,1,1,1,1,1,1,1,1,1]) (hFin Try.prog Try.f7))) .normal) =
  some [((.bool false), H)] := by
  rw [s7_126]
  rw [hSeq_n]
  rw [n7_186]
  rw [hSeq_r]
  kernel_rfl
theorem f7_g50_19_eq (call : Handle) (k : Nat) : onGrd true xg (o7 0 call [1,1,1,1,1,1,1,1,1,1,1,1,1,1,1,1,0,1,0,0] 19 (FG 412 d [(325, xg)]) H ((hSeq (g7 call k [1,1,1,1,1,1,1,1,1,1,1,1,1,1,1,1,0,1,0,1]) (hSeq (g7 call k [1,1,1,1,1,1,1,1,1,1,1,1,1,1,1,1,1]) (hFin Try.prog Try.f7))) .normal)) =
  f7_g50_19 call k xg (d 5) (d 7) (d 20) (d 22) (d 27) H := by
  cases xg with
  | bool b => cases b with
    | true => exact onGrd_b.trans (f7_g50_19_true call k)
    | false => exact onGrd_b.trans (f7_g50_19_false call k)
  | _ => kernel_rfl
noncomputable def f7_g50_14 (call : Handle) (k : Nat) (x320 : Value) (x5 x7 x9 x20 x22 x27 x28 : Value) (H : GH) : M (Value × GH) :=
 onBool (asB x320)
  (onV ((oBin Try.prog .eql 27 x28 x9).filter closed) fun v1 =>
  (f7_g50_19 call k v1 x5 x7 x20 x22 x27 H))
  (some [((.bool false), H)])
theorem f7_g50_14_true (call : Handle) (k : Nat) : o7 0 call [1,1,1,1,1,1,1,1,1,1,1,1,1,1,1,1,0,1,0,0] 14 (FG 412 d [(320, (.bool true))]) H ((hSeq (g7 call k [1,1,1,1,1,1,1,1,1,1,1,1,1,1,1,1,0,1,0,1]) (hSeq (g7 call k [1,1,1,1,1,1,1,1,1,1,1,1,1,1,1,1,1]) (hFin Try.prog Try.f7))) .normal) =
  onV ((oBin Try.prog .eql 27 (d 28) (d 9)).filter closed) fun v1 =>
  (f7_g50_19 call k v1 (d 5) (d 7) (d 20) (d 22) (d 27) H) := by
  rw [o7_s 14 5, s7_119]
  refine onV_c fun v1 => ?_
  generalize e : (FG 412 d [(325, v1), (324, v1), (323, v1), (322, (d 9)), (321, (d 28)), (320, (.bool true))]) = a
  rw [show a = (FG 412 (gf a) [(325, v1)]) from (FG_eq (by subst e; exact FG_len) (FS_cons (by subst e; kernel_rfl) (FS_nil))).symm]
  exact (f7_g50_19_eq (d := gf a) call k).trans (by subst e; kernel_rfl)
theorem f7_g50_14_false (call : Handle) (k : Nat) : o7 0 call [1,1,1,1,1,1,1,1,1,1,1,1,1,1,1,1,0,1,0,0] 14 (FG 412 d [(320, (.bool false))]) H ((hSeq (g7 call k [1,1,1,1,1,1,1,1,1,1,1,1,1,1,1,1,0,1,0,1]) (hSeq (g7 call k [1,1,1,1,1,1,1,1,1,1,1,1,1,1,1,1,1]) (hFin Try.prog Try.f7))) .normal) =
  some [((.bool false), H)] := by
  rw [s7_120]
  rw [hSeq_n]
  rw [n7_186]
  rw [hSeq_r]
  kernel_rfl
theorem f7_g50_14_eq (call : Handle) (k : Nat) : onGrd true xg (o7 0 call [1,1,1,1,1,1,1,1,1,1,1,1,1,1,1,1,0,1,0,0] 14 (FG 412 d [(320, xg)]) H ((hSeq (g7 call k [1,1,1,1,1,1,1,1,1,1,1,1,1,1,1,1,0,1,0,1]) (hSeq (g7 call k [1,1,1,1,1,1,1,1,1,1,1,1,1,1,1,1,1]) (hFin Try.prog Try.f7))) .normal)) =
  f7_g50_14 call k xg (d 5) (d 7) (d 9) (d 20) (d 22) (d 27) (d 28) H := by
  cases xg with
  | bool b => cases b with
    | true => exact onGrd_b.trans (f7_g50_14_true call k)
    | false => exact onGrd_b.trans (f7_g50_14_false call k)
  | _ => kernel_rfl
noncomputable def f7_g50_9 (call : Handle) (k : Nat) (x315 : Value) (x5 x7 x9 x20 x22 x25 x27 x28 : Value) (H : GH) : M (Value × GH) :=
 onBool (asB x315)
  (onV ((oBin Try.prog .eql 27 x25 x9).filter closed) fun v1 =>
  (f7_g50_14 call k v1 x5 x7 x9 x20 x22 x27 x28 H))
  (some [((.bool false), H)])
theorem f7_g50_9_true (call : Handle) (k : Nat) : o7 0 call [1,1,1,1,1,1,1,1,1,1,1,1,1,1,1,1,0,1,0,0] 9 (FG 412 d [(315, (.bool true))]) H ((hSeq (g7 call k [1,1,1,1,1,1,1,1,1,1,1,1,1,1,1,1,0,1,0,1]) (hSeq (g7 call k [1,1,1,1,1,1,1,1,1,1,1,1,1,1,1,1,1]) (hFin Try.prog Try.f7))) .normal) =
  onV ((oBin Try.prog .eql 27 (d 25) (d 9)).filter closed) fun v1 =>
  (f7_g50_14 call k v1 (d 5) (d 7) (d 9) (d 20) (d 22) (d 27) (d 28) H) := by
  rw [o7_s 9 5, s7_114]
  refine onV_c fun v1 => ?_
  generalize e : (FG 412 d [(320, v1), (319, v1), (318, v1), (317, (d 9)), (316, (d 25)), (315, (.bool true))]) = a
  rw [show a = (FG 412 (gf a) [(320, v1)]) from (FG_eq (by subst e; exact FG_len) (FS_cons (by subst e; kernel_rfl) (FS_nil))).symm]
  exact (f7_g50_14_eq (d := gf a) call k).trans (by subst e; kernel_rfl)
theorem f7_g50_9_false (call : Handle) (k : Nat) : o7 0 call [1,1,1,1,1,1,1,1,1,1,1,1,1,1,1,1,0,1,0,0] 9 (FG 412 d [(315, (.bool false))]) H ((hSeq (g7 call k [1,1,1,1,1,1,1,1,1,1,1,1,1,1,1,1,0,1,0,1]) (hSeq (g7 call k [1,1,1,1,1,1,1,1,1,1,1,1,1,1,1,1,1]) (hFin Try.prog Try.f7))) .normal) =
  some [((.bool false), H)] := by
  rw [s7_115]
  rw [hSeq_n]
  rw [n7_186]
  rw [hSeq_r]
  kernel_rfl
theorem f7_g50_9_eq (call : Handle) (k : Nat) : onGrd true xg (o7 0 call [1,1,1,1,1,1,1,1,1,1,1,1,1,1,1,1,0,1,0,0] 9 (FG 412 d [(315, xg)]) H ((hSeq (g7 call k [1,1,1,1,1,1,1,1,1,1,1,1,1,1,1,1,0,1,0,1]) (hSeq (g7 call k [1,1,1,1,1,1,1,1,1,1,1,1,1,1,1,1,1]) (hFin Try.prog Try.f7))) .normal)) =
  f7_g50_9 call k xg (d 5) (d 7) (d 9) (d 20) (d 22) (d 25) (d 27) (d 28) H := by
  cases xg with
  | bool b => cases b with
    | true => exact onGrd_b.trans (f7_g50_9_true call k)
    | false => exact onGrd_b.trans (f7_g50_9_false call k)
  | _ => kernel_rfl
noncomputable def f7_g50_4 (call : Handle) (k : Nat) (x310 : Value) (x5 x7 x9 x20 x22 x23 x25 x27 x28 : Value) (H : GH) : M (Value × GH) :=
 onBool (asB x310)
  (onV ((oBin Try.prog .eql 27 x23 x9).filter closed) fun v1 =>
  (f7_g50_9 call k v1 x5 x7 x9 x20 x22 x25 x27 x28 H))
  (some [((.bool false), H)])
theorem f7_g50_4_true (call : Handle) (k : Nat) : o7 0 call [1,1,1,1,1,1,1,1,1,1,1,1,1,1,1,1,0,1,0,0] 4 (FG 412 d [(310, (.bool true))]) H ((hSeq (g7 call k [1,1,1,1,1,1,1,1,1,1,1,1,1,1,1,1,0,1,0,1]) (hSeq (g7 call k [1,1,1,1,1,1,1,1,1,1,1,1,1,1,1,1,1]) (hFin Try.prog Try.f7))) .normal) =
  onV ((oBin Try.prog .eql 27 (d 23) (d 9)).filter closed) fun v1 =>
  (f7_g50_9 call k v1 (d 5) (d 7) (d 9) (d 20) (d 22) (d 25) (d 27) (d 28) H) := by
  rw [o7_s 4 5, s7_108]
  refine onV_c fun v1 => ?_
  generalize e : (FG 412 d [(315, v1), (314, v1), (313, v1), (312, (d 9)), (311, (d 23)), (310, (.bool true))]) = a
  rw [show a = (FG 412 (gf a) [(315, v1)]) from (FG_eq (by subst e; exact FG_len) (FS_cons (by subst e; kernel_rfl) (FS_nil))).symm]
  exact (f7_g50_9_eq (d := gf a) call k).trans (by subst e; kernel_rfl)
theorem f7_g50_4_false (call : Handle) (k : Nat) : o7 0 call [1,1,1,1,1,1,1,1,1,1,1,1,1,1,1,1,0,1,0,0] 4 (FG 412 d [(310, (.bool false))]) H ((hSeq (g7 call k [1,1,1,1,1,1,1,1,1,1,1,1,1,1,1,1,0,1,0,1]) (hSeq (g7 call k [1,1,1,1,1,1,1,1,1,1,1,1,1,1,1,1,1]) (hFin Try.prog Try.f7))) .normal) =
  some [((.bool false), H)] := by
  rw [s7_109]
  rw [hSeq_n]
  rw [n7_186]
  rw [hSeq_r]
  kernel_rfl
theorem f7_g50_4_eq (call : Handle) (k : Nat) : onGrd true xg (o7 0 call [1,1,1,1,1,1,1,1,1,1,1,1,1,1,1,1,0,1,0,0] 4 (FG 412 d [(310, xg)]) H ((hSeq (g7 call k [1,1,1,1,1,1,1,1,1,1,1,1,1,1,1,1,0,1,0,1]) (hSeq (g7 call k [1,1,1,1,1,1,1,1,1,1,1,1,1,1,1,1,1]) (hFin Try.prog Try.f7))) .normal)) =
  f7_g50_4 call k xg (d 5) (d 7) (d 9) (d 20) (d 22) (d 23) (d 25) (d 27) (d 28) H := by
  cases xg with
  | bool b => cases b with
    | true => exact onGrd_b.trans (f7_g50_4_true call k)
    | false => exact onGrd_b.trans (f7_g50_4_false call k)
  | _ => kernel_rfl
noncomputable def f7_r50 (call : Handle) (k : Nat) (x5 x7 x9 x20 x21 x22 x23 x25 x27 x28 : Value) (H : GH) : M (Value × GH) :=
  onV ((oBin Try.prog .eql 27 x21 x9).filter closed) fun v1 =>
  (f7_g50_4 call k v1 x5 x7 x9 x20 x22 x23 x25 x27 x28 H)
theorem f7_r50_eq (call : Handle) (k : Nat) : g7 call k [1,1,1,1,1,1,1,1,1,1,1,1,1,1,1,1,0,1,0,0] (FF 412 d) H (hSeq (g7 call k [1,1,1,1,1,1,1,1,1,1,1,1,1,1,1,1,0,1,0,1]) (hSeq (g7 call k [1,1,1,1,1,1,1,1,1,1,1,1,1,1,1,1,1]) (hFin Try.prog Try.f7))) = f7_r50 call k (d 5) (d 7) (d 9) (d 20) (d 21) (d 22) (d 23) (d 25) (d 27) (d 28) H := by
  unfold f7_r50
  rw [n7_182]
  rw [o7_s 0 4, s7_105]
  refine onV_c fun v1 => ?_
  generalize e : (FG 412 d [(310, v1), (309, v1), (308, (d 9)), (307, (d 21))]) = a
  rw [show a = (FG 412 (gf a) [(310, v1)]) from (FG_eq (by subst e; exact FG_len) (FS_cons (by subst e; kernel_rfl) (FS_nil))).symm]
  exact (f7_g50_4_eq (d := gf a) call k).trans (by subst e; kernel_rfl)
noncomputable def f7_g52_11 (call : Handle) (k : Nat) (x369 : Value) (H : GH) : M (Value × GH) :=
 onBool (asB x369)
  (onCall 0 call (.func (.func 33) #[] #[]) [] H fun v1 H2 =>
  some [(v1, H2)])
  (some [((.bool false), H)])
theorem f7_g52_11_true (call : Handle) (k : Nat) : o7 0 call [1,1,1,1,1,1,1,1,1,1,1,1,1,1,1,1,1,0,1,0,0] 11 (FG 412 d [(369, (.bool true))]) H ((hSeq (g7 call k [1,1,1,1,1,1,1,1,1,1,1,1,1,1,1,1,1,0,1,0,1]) (hSeq (g7 call k [1,1,1,1,1,1,1,1,1,1,1,1,1,1,1,1,1,1]) (hFin Try.prog Try.f7))) .normal) =
  onCall 0 call (.func (.func 33) #[] #[]) [] H fun v1 H2 =>
  some [(v1, H2)] := by
  rw [s7_121]
  refine onCall_c fun v1 H2 => ?_
  rw [hSeq_n]
  rw [n7_187]
  rw [hSeq_r]
  kernel_rfl
theorem f7_g52_11_false (call : Handle) (k : Nat) : o7 0 call [1,1,1,1,1,1,1,1,1,1,1,1,1,1,1,1,1,0,1,0,0] 11 (FG 412 d [(369, (.bool false))]) H ((hSeq (g7 call k [1,1,1,1,1,1,1,1,1,1,1,1,1,1,1,1,1,0,1,0,1]) (hSeq (g7 call k [1,1,1,1,1,1,1,1,1,1,1,1,1,1,1,1,1,1]) (hFin Try.prog Try.f7))) .normal) =
  some [((.bool false), H)] := by
  rw [s7_122]
  rw [hSeq_n]
  rw [n7_187]
  rw [hSeq_r]
  kernel_rfl
theorem f7_g52_11_eq (call : Handle) (k : Nat) : onGrd true xg (o7 0 call [1,1,1,1,1,1,1,1,1,1,1,1,1,1,1,1,1,0,1,0,0] 11 (FG 412 d [(369, xg)]) H ((hSeq (g7 call k [1,1,1,1,1,1,1,1,1,1,1,1,1,1,1,1,1,0,1,0,1]) (hSeq (g7 call k [1,1,1,1,1,1,1,1,1,1,1,1,1,1,1,1,1,1]) (hFin Try.prog Try.f7))) .normal)) =
  f7_g52_11 call k xg H := by
  cases xg with
  | bool b => cases b with
    | true => exact onGrd_b.trans (f7_g52_11_true call k)
    | false => exact onGrd_b.trans (f7_g52_11_false call k)
  | _ => kernel_rfl
noncomputable def f7_g52_7 (call : Handle) (k : Nat) (x365 : Value) (x28 : Value) (H : GH) : M (Value × GH) :=
 onBool (asB x365)
  (onV ((oBin Try.prog .eql 27 x28 (.int .i64 1)).filter closed) fun v1 =>
  (f7_g52_11 call k v1 H))
  (some [((.bool false), H)])
theorem f7_g52_7_true (call : Handle) (k : Nat) : o7 0 call [1,1,1,1,1,1,1,1,1,1,1,1,1,1,1,1,1,0,1,0,0] 7 (FG 412 d [(365, (.bool true))]) H ((hSeq (g7 call k [1,1,1,1,1,1,1,1,1,1,1,1,1,1,1,1,1,0,1,0,1]) (hSeq (g7 call k [1,1,1,1,1,1,1,1,1,1,1,1,1,1,1,1,1,1]) (hFin Try.prog Try.f7))) .normal) =
  onV ((oBin Try.prog .eql 27 (d 28) (.int .i64 1)).filter closed) fun v1 =>
  (f7_g52_11 call k v1 H) := by
  rw [o7_s 7 4, s7_116]
  refine onV_c fun v1 => ?_
  generalize e : (FG 412 d [(369, v1), (368, v1), (367, v1), (366, (d 28)), (365, (.bool true))]) = a
  rw [show a = (FG 412 (gf a) [(369, v1)]) from (FG_eq (by subst e; exact FG_len) (FS_cons (by subst e; kernel_rfl) (FS_nil))).symm]
  exact (f7_g52_11_eq (d := gf a) call k).trans (by subst e; kernel_rfl)
theorem f7_g52_7_false (call : Handle) (k : Nat) : o7 0 call [1,1,1,1,1,1,1,1,1,1,1,1,1,1,1,1,1,0,1,0,0] 7 (FG 412 d [(365, (.bool false))]) H ((hSeq (g7 call k [1,1,1,1,1,1,1,1,1,1,1,1,1,1,1,1,1,0,1,0,1]) (hSeq (g7 call k [1,1,1,1,1,1,1,1,1,1,1,1,1,1,1,1,1,1]) (hFin Try.prog Try.f7))) .normal) =
  some [((.bool false), H)] := by
  rw [s7_117]
  rw [hSeq_n]
  rw [n7_187]
  rw [hSeq_r]
  kernel_rfl
theorem f7_g52_7_eq (call : Handle) (k : Nat) : onGrd true xg (o7 0 call [1,1,1,1,1,1,1,1,1,1,1,1,1,1,1,1,1,0,1,0,0] 7 (FG 412 d [(365, xg)]) H ((hSeq (g7 call k [1,1,1,1,1,1,1,1,1,1,1,1,1,1,1,1,1,0,1,0,1]) (hSeq (g7 call k [1,1,1,1,1,1,1,1,1,1,1,1,1,1,1,1,1,1]) (hFin Try.prog Try.f7))) .normal)) =
  f7_g52_7 call k xg (d 28) H := by
  cases xg with
  | bool b => cases b with
    | true => exact onGrd_b.trans (f7_g52_7_true call k)
    | false => exact onGrd_b.trans (f7_g52_7_false call k)
  | _ => kernel_rfl
noncomputable def f7_g52_3 (call : Handle) (k : Nat) (x361 : Value) (x23 x28 : Value) (H : GH) : M (Value × GH) :=
 onBool (asB x361)
  (onV ((oBin Try.prog .eql 27 x23 (.int .i64 1)).filter closed) fun v1 =>
  (f7_g52_7 call k v1 x28 H))
  (some [((.bool false), H)])
theorem f7_g52_3_true (call : Handle) (k : Nat) : o7 0 call [1,1,1,1,1,1,1,1,1,1,1,1,1,1,1,1,1,0,1,0,0] 3 (FG 412 d [(361, (.bool true))]) H ((hSeq (g7 call k [1,1,1,1,1,1,1,1,1,1,1,1,1,1,1,1,1,0,1,0,1]) (hSeq (g7 call k [1,1,1,1,1,1,1,1,1,1,1,1,1,1,1,1,1,1]) (hFin Try.prog Try.f7))) .normal) =
  onV ((oBin Try.prog .eql 27 (d 23) (.int .i64 1)).filter closed) fun v1 =>
  (f7_g52_7 call k v1 (d 28) H) := by
  rw [o7_s 3 4, s7_110]
  refine onV_c fun v1 => ?_
  generalize e : (FG 412 d [(365, v1), (364, v1), (363, v1), (362, (d 23)), (361, (.bool true))]) = a
  rw [show a = (FG 412 (gf a) [(365, v1)]) from (FG_eq (by subst e; exact FG_len) (FS_cons (by subst e; kernel_rfl) (FS_nil))).symm]
  exact (f7_g52_7_eq (d := gf a) call k).trans (by subst e; kernel_rfl)
theorem f7_g52_3_false (call : Handle) (k : Nat) : o7 0 call [1,1,1,1,1,1,1,1,1,1,1,1,1,1,1,1,1,0,1,0,0] 3 (FG 412 d [(361, (.bool false))]) H ((hSeq (g7 call k [1,1,1,1,1,1,1,1,1,1,1,1,1,1,1,1,1,0,1,0,1]) (hSeq (g7 call k [1,1,1,1,1,1,1,1,1,1,1,1,1,1,1,1,1,1]) (hFin Try.prog Try.f7))) .normal) =
  some [((.bool false), H)] := by
  rw [s7_111]
  rw [hSeq_n]
  rw [n7_187]
  rw [hSeq_r]
  kernel_rfl
theorem f7_g52_3_eq (call : Handle) (k : Nat) : onGrd true xg (o7 0 call [1,1,1,1,1,1,1,1,1,1,1,1,1,1,1,1,1,0,1,0,0] 3 (FG 412 d [(361, xg)]) H ((hSeq (g7 call k [1,1,1,1,1,1,1,1,1,1,1,1,1,1,1,1,1,0,1,0,1]) (hSeq (g7 call k [1,1,1,1,1,1,1,1,1,1,1,1,1,1,1,1,1,1]) (hFin Try.prog Try.f7))) .normal)) =
  f7_g52_3 call k xg (d 23) (d 28) H := by
  cases xg with
  | bool b => cases b with
    | true => exact onGrd_b.trans (f7_g52_3_true call k)
    | false => exact onGrd_b.trans (f7_g52_3_false call k)
  | _ => kernel_rfl
noncomputable def f7_r52 (call : Handle) (k : Nat) (x21 x23 x28 : Value) (H : GH) : M (Value × GH) :=
  onV ((oBin Try.prog .eql 27 x21 (.int .i64 1)).filter closed) fun v1 =>
  (f7_g52_3 call k v1 x23 x28 H)
theorem f7_r52_eq (call : Handle) (k : Nat) : g7 call k [1,1,1,1,1,1,1,1,1,1,1,1,1,1,1,1,1,0,1,0,0] (FF 412 d) H (hSeq (g7 call k [1,1,1,1,1,1,1,1,1,1,1,1,1,1,1,1,1,0,1,0,1]) (hSeq (g7 call k [1,1,1,1,1,1,1,1,1,1,1,1,1,1,1,1,1,1]) (hFin Try.prog Try.f7))) = f7_r52 call k (d 21) (d 23) (d 28) H := by
  unfold f7_r52
  rw [n7_183]
  rw [o7_s 0 3, s7_106]
  refine onV_c fun v1 => ?_
  generalize e : (FG 412 d [(361, v1), (360, v1), (359, (d 21))]) = a
  rw [show a = (FG 412 (gf a) [(361, v1)]) from (FG_eq (by subst e; exact FG_len) (FS_cons (by subst e; kernel_rfl) (FS_nil))).symm]
  exact (f7_g52_3_eq (d := gf a) call k).trans (by subst e; kernel_rfl)
noncomputable def f7_g57_26 (call : Handle) (k : Nat) (x409 : Value) (H : GH) : M (Value × GH) :=
 onBool (asB x409)
  (onCall 0 call (.func (.func 33) #[] #[]) [] H fun v1 H2 =>
  some [(v1, H2)])
  (some [((.bool false), H)])
theorem f7_g57_26_true (call : Handle) (k : Nat) : o7 0 call [1,1,1,1,1,1,1,1,1,1,1,1,1,1,1,1,1,1,1,1,1,0] 26 (FG 412 d [(409, (.bool true))]) H ((hSeq (g7 call k [1,1,1,1,1,1,1,1,1,1,1,1,1,1,1,1,1,1,1,1,1,1]) (hFin Try.prog Try.f7)) .normal) =
  onCall 0 call (.func (.func 33) #[] #[]) [] H fun v1 H2 =>
  some [(v1, H2)] := by
  rw [s7_139]
  refine onCall_c fun v1 H2 => ?_
  rw [hSeq_n]
  rw [n7_190]
  kernel_rfl
theorem f7_g57_26_false (call : Handle) (k : Nat) : o7 0 call [1,1,1,1,1,1,1,1,1,1,1,1,1,1,1,1,1,1,1,1,1,0] 26 (FG 412 d [(409, (.bool false))]) H ((hSeq (g7 call k [1,1,1,1,1,1,1,1,1,1,1,1,1,1,1,1,1,1,1,1,1,1]) (hFin Try.prog Try.f7)) .normal) =
  some [((.bool false), H)] := by
  rw [s7_140]
  rw [hSeq_n]
  rw [n7_190]
  kernel_rfl
theorem f7_g57_26_eq (call : Handle) (k : Nat) : onGrd true xg (o7 0 call [1,1,1,1,1,1,1,1,1,1,1,1,1,1,1,1,1,1,1,1,1,0] 26 (FG 412 d [(409, xg)]) H ((hSeq (g7 call k [1,1,1,1,1,1,1,1,1,1,1,1,1,1,1,1,1,1,1,1,1,1]) (hFin Try.prog Try.f7)) .normal)) =
  f7_g57_26 call k xg H := by
  cases xg with
  | bool b => cases b with
    | true => exact onGrd_b.trans (f7_g57_26_true call k)
    | false => exact onGrd_b.trans (f7_g57_26_false call k)
  | _ => kernel_rfl
noncomputable def f7_g57_21 (call : Handle) (k : Nat) (x404 : Value) (x25 : Value) (H : GH) : M (Value × GH) :=
 onBool (asB x404)
  (onCall 0 call (.func (.func 33) #[] #[]) [] H fun v1 H2 =>
  some [(v1, H2)])
  (onV ((oBin Try.prog .eql 27 x25 (.int .i64 7)).filter closed) fun v1 =>
  (f7_g57_26 call k v1 H))
theorem f7_g57_21_true (call : Handle) (k : Nat) : o7 0 call [1,1,1,1,1,1,1,1,1,1,1,1,1,1,1,1,1,1,1,1,1,0] 21 (FG 412 d [(404, (.bool true)), (401, (.bool true))]) H ((hSeq (g7 call k [1,1,1,1,1,1,1,1,1,1,1,1,1,1,1,1,1,1,1,1,1,1]) (hFin Try.prog Try.f7)) .normal) =
  onCall 0 call (.func (.func 33) #[] #[]) [] H fun v1 H2 =>
  some [(v1, H2)] := by
  rw [s7_135]
  refine onCall_c fun v1 H2 => ?_
  rw [hSeq_n]
  rw [n7_190]
  kernel_rfl
theorem f7_g57_21_false (call : Handle) (k : Nat) : o7 0 call [1,1,1,1,1,1,1,1,1,1,1,1,1,1,1,1,1,1,1,1,1,0] 21 (FG 412 d [(404, (.bool false)), (401, (.bool true))]) H ((hSeq (g7 call k [1,1,1,1,1,1,1,1,1,1,1,1,1,1,1,1,1,1,1,1,1,1]) (hFin Try.prog Try.f7)) .normal) =
  onV ((oBin Try.prog .eql 27 (d 25) (.int .i64 7)).filter closed) fun v1 =>
  (f7_g57_26 call k v1 H) := by
  rw [o7_s 21 5, s7_136]
  refine onV_c fun v1 => ?_
  generalize e : (FG 412 d [(409, v1), (408, v1), (407, v1), (406, v1), (405, (d 25)), (404, (.bool false)), (401, (.bool true))]) = a
  rw [show a = (FG 412 (gf a) [(409, v1)]) from (FG_eq (by subst e; exact FG_len) (FS_cons (by subst e; kernel_rfl) (FS_nil))).symm]
  exact (f7_g57_26_eq (d := gf a) call k).trans (by subst e; kernel_rfl)
theorem f7_g57_21_eq (call : Handle) (k : Nat) : onGrd true xg (o7 0 call [1,1,1,1,1,1,1,1,1,1,1,1,1,1,1,1,1,1,1,1,1,0] 21 (FG 412 d [(404, xg), (401, (.bool true))]) H ((hSeq (g7 call k [1,1,1,1,1,1,1,1,1,1,1,1,1,1,1,1,1,1,1,1,1,1]) (hFin Try.prog Try.f7)) .normal)) =
  f7_g57_21 call k xg (d 25) H := by
  cases xg with
  | bool b => cases b with
    | true => exact onGrd_b.trans (f7_g57_21_true call k)
    | false => exact onGrd_b.trans (f7_g57_21_false call k)
  | _ => kernel_rfl
noncomputable def f7_g57_18 (call : Handle) (k : Nat) (x401 : Value) (x25 : Value) (H : GH) : M (Value × GH) :=
 onBool (asB x401)
  (onV ((oBin Try.prog .eql 27 x25 (.int .i64 0)).filter closed) fun v1 =>
  (f7_g57_21 call k v1 x25 H))
  (some [((.bool false), H)])
theorem f7_g57_18_true (call : Handle) (k : Nat) : o7 0 call [1,1,1,1,1,1,1,1,1,1,1,1,1,1,1,1,1,1,1,1,1,0] 18 (FG 412 d [(401, (.bool true))]) H ((hSeq (g7 call k [1,1,1,1,1,1,1,1,1,1,1,1,1,1,1,1,1,1,1,1,1,1]) (hFin Try.prog Try.f7)) .normal) =
  onV ((oBin Try.prog .eql 27 (d 25) (.int .i64 0)).filter closed) fun v1 =>
  (f7_g57_21 call k v1 (d 25) H) := by
  rw [o7_s 18 3, s7_131]
  refine onV_c fun v1 => ?_
  generalize e : (FG 412 d [(404, v1), (403, v1), (402, (d 25)), (401, (.bool true))]) = a
  rw [show a = (FG 412 (gf a) [(404, v1), (401, (.bool true))]) from (FG_eq (by subst e; exact FG_len) (FS_cons (by subst e; kernel_rfl) (FS_cons (by subst e; kernel_rfl) (FS_nil)))).symm]
  exact (f7_g57_21_eq (d := gf a) call k).trans (by subst e; kernel_rfl)
theorem f7_g57_18_false (call : Handle) (k : Nat) : o7 0 call [1,1,1,1,1,1,1,1,1,1,1,1,1,1,1,1,1,1,1,1,1,0] 18 (FG 412 d [(401, (.bool false))]) H ((hSeq (g7 call k [1,1,1,1,1,1,1,1,1,1,1,1,1,1,1,1,1,1,1,1,1,1]) (hFin Try.prog Try.f7)) .normal) =
  some [((.bool false), H)] := by
  rw [s7_132]
  rw [hSeq_n]
  rw [n7_190]
  kernel_rfl
theorem f7_g57_18_eq (call : Handle) (k : Nat) : onGrd true xg (o7 0 call [1,1,1,1,1,1,1,1,1,1,1,1,1,1,1,1,1,1,1,1,1,0] 18 (FG 412 d [(401, xg)]) H ((hSeq (g7 call k [1,1,1,1,1,1,1,1,1,1,1,1,1,1,1,1,1,1,1,1,1,1]) (hFin Try.prog Try.f7)) .normal)) =
  f7_g57_18 call k xg (d 25) H := by
  cases xg with
  | bool b => cases b with
    | true => exact onGrd_b.trans (f7_g57_18_true call k)
    | false => exact onGrd_b.trans (f7_g57_18_false call k)
  | _ => kernel_rfl
noncomputable def f7_g57_11 (call : Handle) (k : Nat) (x394 : Value) (x25 x28 x30 : Value) (H : GH) : M (Value × GH) :=
 onBool (asB x394)
  (onV ((oBin Try.prog .eql 27 x28 (.int .i64 1)).filter closed) fun v1 =>
  onV ((oUn Try.prog .not x30).filter closed) fun v2 =>
  onV ((oBin Try.prog .eql 4 v1 v2).filter closed) fun v3 =>
  (f7_g57_18 call k v3 x25 H))
  (some [((.bool false), H)])
theorem f7_g57_11_true (call : Handle) (k : Nat) : o7 0 call [1,1,1,1,1,1,1,1,1,1,1,1,1,1,1,1,1,1,1,1,1,0] 11 (FG 412 d [(394, (.bool true))]) H ((hSeq (g7 call k [1,1,1,1,1,1,1,1,1,1,1,1,1,1,1,1,1,1,1,1,1,1]) (hFin Try.prog Try.f7)) .normal) =
  onV ((oBin Try.prog .eql 27 (d 28) (.int .i64 1)).filter closed) fun v1 =>
  onV ((oUn Try.prog .not (d 30)).filter closed) fun v2 =>
  onV ((oBin Try.prog .eql 4 v1 v2).filter closed) fun v3 =>
  (f7_g57_18 call k v3 (d 25) H) := by
  rw [o7_s 11 7, s7_127]
  refine onV_c fun v1 => ?_
  refine onV_c fun v2 => ?_
  refine onV_c fun v3 => ?_
  generalize e : (FG 412 d [(401, v3), (400, v3), (399, v3), (398, v2), (397, (d 30)), (396, v1), (395, (d 28)), (394, (.bool true))]) = a
  rw [show a = (FG 412 (gf a) [(401, v3)]) from (FG_eq (by subst e; exact FG_len) (FS_cons (by subst e; kernel_rfl) (FS_nil))).symm]
  exact (f7_g57_18_eq (d := gf a) call k).trans (by subst e; kernel_rfl)
theorem f7_g57_11_false (call : Handle) (k : Nat) : o7 0 call [1,1,1,1,1,1,1,1,1,1,1,1,1,1,1,1,1,1,1,1,1,0] 11 (FG 412 d [(394, (.bool false))]) H ((hSeq (g7 call k [1,1,1,1,1,1,1,1,1,1,1,1,1,1,1,1,1,1,1,1,1,1]) (hFin Try.prog Try.f7)) .normal) =
  some [((.bool false), H)] := by
  rw [s7_128]
  rw [hSeq_n]
  rw [n7_190]
  kernel_rfl
theorem f7_g57_11_eq (call : Handle) (k : Nat) : onGrd true xg (o7 0 call [1,1,1,1,1,1,1,1,1,1,1,1,1,1,1,1,1,1,1,1,1,0] 11 (FG 412 d [(394, xg)]) H ((hSeq (g7 call k [1,1,1,1,1,1,1,1,1,1,1,1,1,1,1,1,1,1,1,1,1,1]) (hFin Try.prog Try.f7)) .normal)) =
  f7_g57_11 call k xg (d 25) (d 28) (d 30) H := by
  cases xg with
  | bool b => cases b with
    | true => exact onGrd_b.trans (f7_g57_11_true call k)
    | false => exact onGrd_b.trans (f7_g57_11_false call k)
  | _ => kernel_rfl
noncomputable def f7_g57_4 (call : Handle) (k : Nat) (x387 : Value) (x23 x25 x28 x30 : Value) (H : GH) : M (Value × GH) :=
 onBool (asB x387)
  (onV ((oBin Try.prog .eql 27 x23 (.int .i64 1)).filter closed) fun v1 =>
  onV ((oUn Try.prog .not x30).filter closed) fun v2 =>
  onV ((oBin Try.prog .eql 4 v1 v2).filter closed) fun v3 =>
  (f7_g57_11 call k v3 x25 x28 x30 H))
  (some [((.bool false), H)])
theorem f7_g57_4_true (call : Handle) (k : Nat) : o7 0 call [1,1,1,1,1,1,1,1,1,1,1,1,1,1,1,1,1,1,1,1,1,0] 4 (FG 412 d [(387, (.bool true))]) H ((hSeq (g7 call k [1,1,1,1,1,1,1,1,1,1,1,1,1,1,1,1,1,1,1,1,1,1]) (hFin Try.prog Try.f7)) .normal) =
  onV ((oBin Try.prog .eql 27 (d 23) (.int .i64 1)).filter closed) fun v1 =>
  onV ((oUn Try.prog .not (d 30)).filter closed) fun v2 =>
  onV ((oBin Try.prog .eql 4 v1 v2).filter closed) fun v3 =>
  (f7_g57_11 call k v3 (d 25) (d 28) (d 30) H) := by
  rw [o7_s 4 7, s7_123]
  refine onV_c fun v1 => ?_
  refine onV_c fun v2 => ?_
  refine onV_c fun v3 => ?_
  generalize e : (FG 412 d [(394, v3), (393, v3), (392, v3), (391, v2), (390, (d 30)), (389, v1), (388, (d 23)), (387, (.bool true))]) = a
  rw [show a = (FG 412 (gf a) [(394, v3)]) from (FG_eq (by subst e; exact FG_len) (FS_cons (by subst e; kernel_rfl) (FS_nil))).symm]
  exact (f7_g57_11_eq (d := gf a) call k).trans (by subst e; kernel_rfl)
theorem f7_g57_4_false (call : Handle) (k : Nat) : o7 0 call [1,1,1,1,1,1,1,1,1,1,1,1,1,1,1,1,1,1,1,1,1,0] 4 (FG 412 d [(387, (.bool false))]) H ((hSeq (g7 call k [1,1,1,1,1,1,1,1,1,1,1,1,1,1,1,1,1,1,1,1,1,1]) (hFin Try.prog Try.f7)) .normal) =
  some [((.bool false), H)] := by
  rw [s7_124]
  rw [hSeq_n]
  rw [n7_190]
  kernel_rfl
theorem f7_g57_4_eq (call : Handle) (k : Nat) : onGrd true xg (o7 0 call [1,1,1,1,1,1,1,1,1,1,1,1,1,1,1,1,1,1,1,1,1,0] 4 (FG 412 d [(387, xg)]) H ((hSeq (g7 call k [1,1,1,1,1,1,1,1,1,1,1,1,1,1,1,1,1,1,1,1,1,1]) (hFin Try.prog Try.f7)) .normal)) =
  f7_g57_4 call k xg (d 23) (d 25) (d 28) (d 30) H := by
  cases xg with
  | bool b => cases b with
    | true => exact onGrd_b.trans (f7_g57_4_true call k)
    | false => exact onGrd_b.trans (f7_g57_4_false call k)
  | _ => kernel_rfl
noncomputable def f7_r57 (call : Handle) (k : Nat) (x21 x23 x25 x28 x29 x30 : Value) (H : GH) : M (Value × GH) :=
  onV ((oBin Try.prog .eql 27 x21 x29).filter closed) fun v1 =>
  (f7_g57_4 call k v1 x23 x25 x28 x30 H)
theorem f7_r57_eq (call : Handle) (k : Nat) : g7 call k [1,1,1,1,1,1,1,1,1,1,1,1,1,1,1,1,1,1,1,1,1,0] (FF 412 d) H (hSeq (g7 call k [1,1,1,1,1,1,1,1,1,1,1,1,1,1,1,1,1,1,1,1,1,1]) (hFin Try.prog Try.f7)) = f7_r57 call k (d 21) (d 23) (d 25) (d 28) (d 29) (d 30) H := by
  unfold f7_r57
  rw [n7_189]
  rw [o7_s 0 4, s7_118]
  refine onV_c fun v1 => ?_
  generalize e : (FG 412 d [(387, v1), (386, v1), (385, (d 29)), (384, (d 21))]) = a
  rw [show a = (FG 412 (gf a) [(387, v1)]) from (FG_eq (by subst e; exact FG_len) (FS_cons (by subst e; kernel_rfl) (FS_nil))).symm]
  exact (f7_g57_4_eq (d := gf a) call k).trans (by subst e; kernel_rfl)
noncomputable def f7_g56_4 (call : Handle) (k : Nat) (x379 : Value) (x5 x21 x23 x25 x28 x29 : Value) (H : GH) : M (Value × GH) :=
 onBool (asB x379)
  (onV (oFieldAddr Try.prog 91 x5 0) fun v1 =>
  onV (gLoad Try.prog 3 v1 H) fun v2 =>
  onV ((oBin Try.prog .leq 3 v2 (.int .i64 100000)).filter closed) fun v3 =>
  (f7_r57 call k x21 x23 x25 x28 x29 v3 H))
  ((f7_r57 call k x21 x23 x25 x28 x29 (.bool false) H))
theorem f7_g56_4_true (call : Handle) (k : Nat) : o7 0 call [1,1,1,1,1,1,1,1,1,1,1,1,1,1,1,1,1,1,1,1,0] 4 (FG 412 d [(379, (.bool true))]) H ((hSeq (g7 call k [1,1,1,1,1,1,1,1,1,1,1,1,1,1,1,1,1,1,1,1,1]) (hFin Try.prog Try.f7)) .normal) =
  onV (oFieldAddr Try.prog 91 (d 5) 0) fun v1 =>
  onV (gLoad Try.prog 3 v1 H) fun v2 =>
  onV ((oBin Try.prog .leq 3 v2 (.int .i64 100000)).filter closed) fun v3 =>
  (f7_r57 call k (d 21) (d 23) (d 25) (d 28) (d 29) v3 H) := by
  rw [s7_112]
  refine onV_c fun v1 => ?_
  refine onV_c fun v2 => ?_
  refine onV_c fun v3 => ?_
  rw [hSeq_n]
  rw [n7_188]
  generalize e : (FG 412 d [(30, v3), (383, v3), (382, v3), (381, v2), (380, v1), (379, (.bool true))]) = a
  rw [show a = (FF 412 (gf a)) from (FF_gf (by subst e; exact FG_len)).symm]
  exact (f7_r57_eq (d := gf a) call k).trans (by subst e; kernel_rfl)
theorem f7_g56_4_false (call : Handle) (k : Nat) : o7 0 call [1,1,1,1,1,1,1,1,1,1,1,1,1,1,1,1,1,1,1,1,0] 4 (FG 412 d [(379, (.bool false))]) H ((hSeq (g7 call k [1,1,1,1,1,1,1,1,1,1,1,1,1,1,1,1,1,1,1,1,1]) (hFin Try.prog Try.f7)) .normal) =
  (f7_r57 call k (d 21) (d 23) (d 25) (d 28) (d 29) (.bool false) H) := by
  rw [s7_113]
  rw [hSeq_n]
  rw [n7_188]
  generalize e : (FG 412 d [(30, (.bool false)), (383, (.bool false)), (382, undef), (381, undef), (380, undef), (379, (.bool false))]) = a
  rw [show a = (FF 412 (gf a)) from (FF_gf (by subst e; exact FG_len)).symm]
  exact (f7_r57_eq (d := gf a) call k).trans (by subst e; kernel_rfl)
theorem f7_g56_4_eq (call : Handle) (k : Nat) : onGrd true xg (o7 0 call [1,1,1,1,1,1,1,1,1,1,1,1,1,1,1,1,1,1,1,1,0] 4 (FG 412 d [(379, xg)]) H ((hSeq (g7 call k [1,1,1,1,1,1,1,1,1,1,1,1,1,1,1,1,1,1,1,1,1]) (hFin Try.prog Try.f7)) .normal)) =
  f7_g56_4 call k xg (d 5) (d 21) (d 23) (d 25) (d 28) (d 29) H := by
  cases xg with
  | bool b => cases b with
    | true => exact onGrd_b.trans (f7_g56_4_true call k)
    | false => exact onGrd_b.trans (f7_g56_4_false call k)
  | _ => kernel_rfl
noncomputable def f7_r56 (call : Handle) (k : Nat) (x5 x21 x23 x25 x28 x29 : Value) (H : GH) : M (Value × GH) :=
  onV (oFieldAddr Try.prog 91 x5 0) fun v1 =>
  onV (gLoad Try.prog 3 v1 H) fun v2 =>
  onV ((oBin Try.prog .geq 3 v2 (.int .i64 1)).filter closed) fun v3 =>
  (f7_g56_4 call k v3 x5 x21 x23 x25 x28 x29 H)
theorem f7_r56_eq (call : Handle) (k : Nat) : g7 call k [1,1,1,1,1,1,1,1,1,1,1,1,1,1,1,1,1,1,1,1] (FF 412 d) H (hFin Try.prog Try.f7) = f7_r56 call k (d 5) (d 21) (d 23) (d 25) (d 28) (d 29) H := by
  unfold f7_r56
  rw [n7_184]
  rw [n7_185]
  rw [o7_s 0 4, s7_107]
  refine onV_c fun v1 => ?_
  refine onV_c fun v2 => ?_
  refine onV_c fun v3 => ?_
  generalize e : (FG 412 d [(379, v3), (378, v3), (377, v2), (376, v1)]) = a
  rw [show a = (FG 412 (gf a) [(379, v3)]) from (FG_eq (by subst e; exact FG_len) (FS_cons (by subst e; kernel_rfl) (FS_nil))).symm]
  exact (f7_g56_4_eq (d := gf a) call k).trans (by subst e; kernel_rfl)
noncomputable def f7_r49 (call : Handle) (k : Nat) (x5 x7 x9 x19 x20 x21 x22 x23 x25 x27 x28 : Value) (H : GH) : M (Value × GH) :=
  onV ((oBin Try.prog .neq 27 x9 (.int .i64 0)).filter closed) fun v1 =>
  onBool (asB v1)
  ((f7_r50 call k x5 x7 x9 x20 x21 x22 x23 x25 x27 x28 H))
  (onV ((oUn Try.prog .not x19).filter closed) fun v2 =>
  onBool (asB v2)
  ((f7_r52 call k x21 x23 x28 H))
  (onV (oFieldAddr Try.prog 88 x7 0) fun v3 =>
  onV (gLoad Try.prog 85 v3 H) fun v4 =>
  onV (oLen Try.prog 85 v4) fun v5 =>
  onV ((oBin Try.prog .eql 3 v5 (.int .i64 512)).filter closed) fun v6 =>
  onBool (asB v6)
  ((f7_r56 call k x5 x21 x23 x25 x28 (.int .i64 9) H))
  ((f7_r56 call k x5 x21 x23 x25 x28 (.int .i64 0) H))))
theorem f7_r49_eq (call : Handle) (k : Nat) : g7 call k [1,1,1,1,1,1,1,1,1,1,1,1,1,1,1,1,0,0] (FF 412 d) H (hSeq (g7 call k [1,1,1,1,1,1,1,1,1,1,1,1,1,1,1,1,0,1]) (hSeq (g7 call k [1,1,1,1,1,1,1,1,1,1,1,1,1,1,1,1,1]) (hFin Try.prog Try.f7))) = f7_r49 call k (d 5) (d 7) (d 9) (d 19) (d 20) (d 21) (d 22) (d 23) (d 25) (d 27) (d 28) H := by
  unfold f7_r49
  rw [n7_164]
  rw [s7_100]
  refine onV_c fun v1 => ?_
  rw [hSeq_n]
  rw [n7_165]
  refine onBool_cc (by kernel_rfl) ?_ ?_
  · rw [n7_166]
    generalize e : (FG 412 d [(306, v1), (305, (d 9))]) = a
    rw [show a = (FF 412 (gf a)) from (FF_gf (by subst e; exact FG_len)).symm]
    exact (f7_r50_eq (d := gf a) call k).trans (by subst e; kernel_rfl)
  · rw [n7_167]
    rw [hSeq_n]
    rw [n7_168]
    rw [n7_169]
    rw [n7_170]
    rw [s7_101]
    refine onV_c fun v2 => ?_
    rw [hSeq_n]
    rw [n7_171]
    refine onBool_cc (by kernel_rfl) ?_ ?_
    · rw [n7_172]
      generalize e : (FG 412 d [(358, v2), (357, (d 19)), (306, v1), (305, (d 9))]) = a
      rw [show a = (FF 412 (gf a)) from (FF_gf (by subst e; exact FG_len)).symm]
      exact (f7_r52_eq (d := gf a) call k).trans (by subst e; kernel_rfl)
    · rw [n7_173]
      rw [hSeq_n]
      rw [n7_174]
      rw [n7_175]
      rw [s7_102]
      rw [hSeq_n]
      rw [n7_176]
      rw [n7_177]
      rw [n7_178]
      rw [s7_103]
      refine onV_c fun v3 => ?_
      refine onV_c fun v4 => ?_
      refine onV_c fun v5 => ?_
      refine onV_c fun v6 => ?_
      rw [hSeq_n]
      rw [n7_179]
      refine onBool_cc (by kernel_rfl) ?_ ?_
      · rw [n7_180]
        rw [s7_104]
        rw [hSeq_n]
        generalize e : (FG 412 d [(29, (.int .i64 9)), (375, v6), (374, v5), (373, v4), (372, v3), (29, (.int .i64 0)), (358, v2), (357, (d 19)), (306, v1), (305, (d 9))]) = a
        rw [show a = (FF 412 (gf a)) from (FF_gf (by subst e; exact FG_len)).symm]
        exact (f7_r56_eq (d := gf a) call k).trans (by subst e; kernel_rfl)
      · rw [n7_181]
        rw [hSeq_n]
        generalize e : (FG 412 d [(375, v6), (374, v5), (373, v4), (372, v3), (29, (.int .i64 0)), (358, v2), (357, (d 19)), (306, v1), (305, (d 9))]) = a
        rw [show a = (FF 412 (gf a)) from (FF_gf (by subst e; exact FG_len)).symm]
        exact (f7_r56_eq (d := gf a) call k).trans (by subst e; kernel_rfl)
noncomputable def f7_r48 (call : Handle) (k : Nat) (x5 x7 x9 x19 x20 x21 x22 x23 x25 : Value) (H : GH) : M (Value × GH) :=
  onV (gLoad Try.prog 88 x7 H) fun v1 =>
  onV (oFieldAddr Try.prog 91 x5 0) fun v2 =>
  onV (gLoad Try.prog 3 v2 H) fun v3 =>
  onV (oFieldAddr Try.prog 91 x5 1) fun v4 =>
  onV (gLoad Try.prog 3 v4 H) fun v5 =>
  onV (oFieldAddr Try.prog 91 x5 2) fun v6 =>
  onV (gLoad Try.prog 3 v6 H) fun v7 =>
  onCall 0 call (.func (.func 38) #[] #[]) [v1, v3, v5, v7] H fun v8 H9 =>
  onV (oExtract v8 0) fun v10 =>
  onV (oExtract v8 1) fun v11 =>
  onV (oExtract v8 2) fun v12 =>
  onH (gStore Try.prog 88 (.pointer (some ⟨H9.n, 0, none⟩)) v10 (GH.push H9 (.row [(.slice none 0 0), (.slice none 0 0)] 88 false))) fun H13 =>
  (f7_r49 call k x5 x7 x9 x19 x20 x21 x22 x23 x25 v11 v12 H13)
theorem f7_r48_eq (call : Handle) (k : Nat) : g7 call k [1,1,1,1,1,1,1,1,1,1,1,1,1,1,1,0] (FF 412 d) H (hSeq (g7 call k [1,1,1,1,1,1,1,1,1,1,1,1,1,1,1,1]) (hFin Try.prog Try.f7)) = f7_r48 call k (d 5) (d 7) (d 9) (d 19) (d 20) (d 21) (d 22) (d 23) (d 25) H := by
  unfold f7_r48
  rw [n7_161]
  rw [s7_99]
  refine onV_c fun v1 => ?_
  refine onV_c fun v2 => ?_
  refine onV_c fun v3 => ?_
  refine onV_c fun v4 => ?_
  refine onV_c fun v5 => ?_
  refine onV_c fun v6 => ?_
  refine onV_c fun v7 => ?_
  refine onCall_c fun v8 H9 => ?_
  refine onV_c fun v10 => ?_
  refine onV_c fun v11 => ?_
  refine onV_c fun v12 => ?_
  refine onH_c fun H13 => ?_
  rw [hSeq_n]
  rw [n7_162]
  rw [n7_163]
  generalize e : (FG 412 d [(28, v12), (27, v11), (26, (.pointer (some ⟨H9.n, 0, none⟩))), (304, v12), (303, v11), (302, v10), (293, v8), (301, v8), (300, v7), (299, v6), (298, v5), (297, v4), (296, v3), (295, v2), (294, v1)]) = a
  rw [show a = (FF 412 (gf a)) from (FF_gf (by subst e; exact FG_len)).symm]
  exact (f7_r49_eq (d := gf a) call k).trans (by subst e; kernel_rfl)
noncomputable def f7_r47 (call : Handle) (k : Nat) (x5 x7 x9 x19 x20 x21 x22 x23 : Value) (H : GH) : M (Value × GH) :=
  onV (gLoad Try.prog 88 x7 H) fun v1 =>
  onV (oFieldAddr Try.prog 91 x5 0) fun v2 =>
  onV (gLoad Try.prog 3 v2 H) fun v3 =>
  onCall 0 call (.func (.func 37) #[] #[]) [v1, v3] H fun v4 H5 =>
  onV (oExtract v4 0) fun v6 =>
  onV (oExtract v4 1) fun v7 =>
  onH (gStore Try.prog 88 (.pointer (some ⟨H5.n, 0, none⟩)) v6 (GH.push H5 (.row [(.slice none 0 0), (.slice none 0 0)] 88 false))) fun H8 =>
  (f7_r48 call k x5 x7 x9 x19 x20 x21 x22 x23 v7 H8)
theorem f7_r47_eq (call : Handle) (k : Nat) : g7 call k [1,1,1,1,1,1,1,1,1,1,1,1,1,1,0] (FF 412 d) H (hSeq (g7 call k [1,1,1,1,1,1,1,1,1,1,1,1,1,1,1]) (hFin Try.prog Try.f7)) = f7_r47 call k (d 5) (d 7) (d 9) (d 19) (d 20) (d 21) (d 22) (d 23) H := by
  unfold f7_r47
  rw [n7_159]
  rw [s7_98]
  refine onV_c fun v1 => ?_
  refine onV_c fun v2 => ?_
  refine onV_c fun v3 => ?_
  refine onCall_c fun v4 H5 => ?_
  refine onV_c fun v6 => ?_
  refine onV_c fun v7 => ?_
  refine onH_c fun H8 => ?_
  rw [hSeq_n]
  rw [n7_160]
  generalize e : (FG 412 d [(25, v7), (24, (.pointer (some ⟨H5.n, 0, none⟩))), (292, v7), (291, v6), (286, v4), (290, v4), (289, v3), (288, v2), (287, v1)]) = a
  rw [show a = (FF 412 (gf a)) from (FF_gf (by subst e; exact FG_len)).symm]
  exact (f7_r48_eq (d := gf a) call k).trans (by subst e; kernel_rfl)
noncomputable def f7_r46 (call : Handle) (k : Nat) (x5 x7 x9 x19 x20 x21 : Value) (H : GH) : M (Value × GH) :=
  onV (gLoad Try.prog 88 x7 H) fun v1 =>
  onV (gLoad Try.prog 91 x5 H) fun v2 =>
  onVH (gBuildSlice Try.prog 86 1 [(0, v2)] H) fun v3 H4 =>
  onCall 0 call (.func (.func 36) #[] #[]) [v1, v3] H4 fun v5 H6 =>
  onV (oExtract v5 0) fun v7 =>
  onV (oExtract v5 1) fun v8 =>
  onH (gStore Try.prog 88 (.pointer (some ⟨H6.n, 0, none⟩)) v7 (GH.push H6 (.row [(.slice none 0 0), (.slice none 0 0)] 88 false))) fun H9 =>
  (f7_r47 call k x5 x7 x9 x19 x20 x21 (.pointer (some ⟨H6.n, 0, none⟩)) v8 H9)
theorem f7_r46_eq (call : Handle) (k : Nat) : g7 call k [1,1,1,1,1,1,1,1,1,1,1,1,1,0] (FF 412 d) H (hSeq (g7 call k [1,1,1,1,1,1,1,1,1,1,1,1,1,1]) (hFin Try.prog Try.f7)) = f7_r46 call k (d 5) (d 7) (d 9) (d 19) (d 20) (d 21) H := by
  unfold f7_r46
  rw [n7_157]
  rw [s7_97]
  refine onV_c fun v1 => ?_
  refine onV_c fun v2 => ?_
  refine onVH_c fun v3 H4 => ?_
  refine onCall_c fun v5 H6 => ?_
  refine onV_c fun v7 => ?_
  refine onV_c fun v8 => ?_
  refine onH_c fun H9 => ?_
  rw [hSeq_n]
  rw [n7_158]
  generalize e : (FG 412 d [(23, v8), (22, (.pointer (some ⟨H6.n, 0, none⟩))), (285, v8), (284, v7), (279, v5), (283, v5), (282, v3), (281, v2), (280, v1)]) = a
  rw [show a = (FF 412 (gf a)) from (FF_gf (by subst e; exact FG_len)).symm]
  exact (f7_r47_eq (d := gf a) call k).trans (by subst e; kernel_rfl)
noncomputable def f7_r45 (call : Handle) (k : Nat) (x5 x7 x9 x18 x19 : Value) (H : GH) : M (Value × GH) :=
  onV (gLoad Try.prog 88 x7 H) fun v1 =>
  onV (gLoad Try.prog 93 x18 H) fun v2 =>
  onCall 0 call (.func (.func 35) #[] #[]) [v1, v2] H fun v3 H4 =>
  onV (oExtract v3 0) fun v5 =>
  onV (oExtract v3 1) fun v6 =>
  onH (gStore Try.prog 88 (.pointer (some ⟨H4.n, 0, none⟩)) v5 (GH.push H4 (.row [(.slice none 0 0), (.slice none 0 0)] 88 false))) fun H7 =>
  (f7_r46 call k x5 x7 x9 x19 (.pointer (some ⟨H4.n, 0, none⟩)) v6 H7)
theorem f7_r45_eq (call : Handle) (k : Nat) : g7 call k [1,1,1,1,1,1,1,1,1,1,1,1,0] (FF 412 d) H (hSeq (g7 call k [1,1,1,1,1,1,1,1,1,1,1,1,1]) (hFin Try.prog Try.f7)) = f7_r45 call k (d 5) (d 7) (d 9) (d 18) (d 19) H := by
  unfold f7_r45
  rw [n7_155]
  rw [s7_94]
  refine onV_c fun v1 => ?_
  refine onV_c fun v2 => ?_
  refine onCall_c fun v3 H4 => ?_
  refine onV_c fun v5 => ?_
  refine onV_c fun v6 => ?_
  refine onH_c fun H7 => ?_
  rw [hSeq_n]
  rw [n7_156]
  generalize e : (FG 412 d [(21, v6), (20, (.pointer (some ⟨H4.n, 0, none⟩))), (278, v6), (277, v5), (273, v3), (276, v3), (275, v2), (274, v1)]) = a
  rw [show a = (FF 412 (gf a)) from (FF_gf (by subst e; exact FG_len)).symm]
  exact (f7_r46_eq (d := gf a) call k).trans (by subst e; kernel_rfl)
noncomputable def f7_g44_14 (call : Handle) (k : Nat) (x268 : Value) (x5 x7 x9 x18 : Value) (H : GH) : M (Value × GH) :=
 onBool (asB x268)
  (onV (oFieldAddr Try.prog 93 x18 1) fun v1 =>
  onV (gLoad Try.prog 3 v1 H) fun v2 =>
  onV ((oBin Try.prog .leq 3 v2 (.int .i64 1000000000)).filter closed) fun v3 =>
  (f7_r45 call k x5 x7 x9 x18 v3 H))
  ((f7_r45 call k x5 x7 x9 x18 (.bool false) H))
theorem f7_g44_14_true (call : Handle) (k : Nat) : o7 0 call [1,1,1,1,1,1,1,1,1,1,1,0] 14 (FG 412 d [(268, (.bool true))]) H ((hSeq (g7 call k [1,1,1,1,1,1,1,1,1,1,1,1]) (hFin Try.prog Try.f7)) .normal) =
  onV (oFieldAddr Try.prog 93 (d 18) 1) fun v1 =>
  onV (gLoad Try.prog 3 v1 H) fun v2 =>
  onV ((oBin Try.prog .leq 3 v2 (.int .i64 1000000000)).filter closed) fun v3 =>
  (f7_r45 call k (d 5) (d 7) (d 9) (d 18) v3 H) := by
  rw [s7_95]
  refine onV_c fun v1 => ?_
  refine onV_c fun v2 => ?_
  refine onV_c fun v3 => ?_
  rw [hSeq_n]
  rw [n7_152]
  generalize e : (FG 412 d [(19, v3), (272, v3), (271, v3), (270, v2), (269, v1), (268, (.bool true))]) = a
  rw [show a = (FF 412 (gf a)) from (FF_gf (by subst e; exact FG_len)).symm]
  exact (f7_r45_eq (d := gf a) call k).trans (by subst e; kernel_rfl)
theorem f7_g44_14_false (call : Handle) (k : Nat) : o7 0 call [1,1,1,1,1,1,1,1,1,1,1,0] 14 (FG 412 d [(268, (.bool false))]) H ((hSeq (g7 call k [1,1,1,1,1,1,1,1,1,1,1,1]) (hFin Try.prog Try.f7)) .normal) =
  (f7_r45 call k (d 5) (d 7) (d 9) (d 18) (.bool false) H) := by
  rw [s7_96]
  rw [hSeq_n]
  rw [n7_152]
  generalize e : (FG 412 d [(19, (.bool false)), (272, (.bool false)), (271, undef), (270, undef), (269, undef), (268, (.bool false))]) = a
  rw [show a = (FF 412 (gf a)) from (FF_gf (by subst e; exact FG_len)).symm]
  exact (f7_r45_eq (d := gf a) call k).trans (by subst e; kernel_rfl)
theorem f7_g44_14_eq (call : Handle) (k : Nat) : onGrd true xg (o7 0 call [1,1,1,1,1,1,1,1,1,1,1,0] 14 (FG 412 d [(268, xg)]) H ((hSeq (g7 call k [1,1,1,1,1,1,1,1,1,1,1,1]) (hFin Try.prog Try.f7)) .normal)) =
  f7_g44_14 call k xg (d 5) (d 7) (d 9) (d 18) H := by
  cases xg with
  | bool b => cases b with
    | true => exact onGrd_b.trans (f7_g44_14_true call k)
    | false => exact onGrd_b.trans (f7_g44_14_false call k)
  | _ => kernel_rfl
noncomputable def f7_g44_9 (call : Handle) (k : Nat) (x263 : Value) (x5 x7 x9 x18 : Value) (H : GH) : M (Value × GH) :=
 onBool (asB x263)
  (onV (oFieldAddr Try.prog 93 x18 1) fun v1 =>
  onV (gLoad Try.prog 3 v1 H) fun v2 =>
  onV ((oBin Try.prog .geq 3 v2 (.int .i64 1)).filter closed) fun v3 =>
  (f7_g44_14 call k v3 x5 x7 x9 x18 H))
  ((f7_r45 call k x5 x7 x9 x18 (.bool false) H))
theorem f7_g44_9_true (call : Handle) (k : Nat) : o7 0 call [1,1,1,1,1,1,1,1,1,1,1,0] 9 (FG 412 d [(263, (.bool true))]) H ((hSeq (g7 call k [1,1,1,1,1,1,1,1,1,1,1,1]) (hFin Try.prog Try.f7)) .normal) =
  onV (oFieldAddr Try.prog 93 (d 18) 1) fun v1 =>
  onV (gLoad Try.prog 3 v1 H) fun v2 =>
  onV ((oBin Try.prog .geq 3 v2 (.int .i64 1)).filter closed) fun v3 =>
  (f7_g44_14 call k v3 (d 5) (d 7) (d 9) (d 18) H) := by
  rw [o7_s 9 5, s7_92]
  refine onV_c fun v1 => ?_
  refine onV_c fun v2 => ?_
  refine onV_c fun v3 => ?_
  generalize e : (FG 412 d [(268, v3), (267, v3), (266, v3), (265, v2), (264, v1), (263, (.bool true))]) = a
  rw [show a = (FG 412 (gf a) [(268, v3)]) from (FG_eq (by subst e; exact FG_len) (FS_cons (by subst e; kernel_rfl) (FS_nil))).symm]
  exact (f7_g44_14_eq (d := gf a) call k).trans (by subst e; kernel_rfl)
theorem f7_g44_9_false (call : Handle) (k : Nat) : o7 0 call [1,1,1,1,1,1,1,1,1,1,1,0] 9 (FG 412 d [(263, (.bool false))]) H ((hSeq (g7 call k [1,1,1,1,1,1,1,1,1,1,1,1]) (hFin Try.prog Try.f7)) .normal) =
  (f7_r45 call k (d 5) (d 7) (d 9) (d 18) (.bool false) H) := by
  rw [s7_93]
  rw [hSeq_n]
  rw [n7_152]
  generalize e : (FG 412 d [(19, (.bool false)), (272, (.bool false)), (271, undef), (270, undef), (269, undef), (268, (.bool false)), (267, (.bool false)), (266, undef), (265, undef), (264, undef), (263, (.bool false))]) = a
  rw [show a = (FF 412 (gf a)) from (FF_gf (by subst e; exact FG_len)).symm]
  exact (f7_r45_eq (d := gf a) call k).trans (by subst e; kernel_rfl)
theorem f7_g44_9_eq (call : Handle) (k : Nat) : onGrd true xg (o7 0 call [1,1,1,1,1,1,1,1,1,1,1,0] 9 (FG 412 d [(263, xg)]) H ((hSeq (g7 call k [1,1,1,1,1,1,1,1,1,1,1,1]) (hFin Try.prog Try.f7)) .normal)) =
  f7_g44_9 call k xg (d 5) (d 7) (d 9) (d 18) H := by
  cases xg with
  | bool b => cases b with
    | true => exact onGrd_b.trans (f7_g44_9_true call k)
    | false => exact onGrd_b.trans (f7_g44_9_false call k)
  | _ => kernel_rfl
noncomputable def f7_g44_4 (call : Handle) (k : Nat) (x258 : Value) (x5 x7 x9 x18 : Value) (H : GH) : M (Value × GH) :=
 onBool (asB x258)
  (onV (oFieldAddr Try.prog 93 x18 0) fun v1 =>
  onV (gLoad Try.prog 3 v1 H) fun v2 =>
  onV ((oBin Try.prog .leq 3 v2 (.int .i64 1000)).filter closed) fun v3 =>
  (f7_g44_9 call k v3 x5 x7 x9 x18 H))
  ((f7_r45 call k x5 x7 x9 x18 (.bool false) H))
theorem f7_g44_4_true (call : Handle) (k : Nat) : o7 0 call [1,1,1,1,1,1,1,1,1,1,1,0] 4 (FG 412 d [(258, (.bool true))]) H ((hSeq (g7 call k [1,1,1,1,1,1,1,1,1,1,1,1]) (hFin Try.prog Try.f7)) .normal) =
  onV (oFieldAddr Try.prog 93 (d 18) 0) fun v1 =>
  onV (gLoad Try.prog 3 v1 H) fun v2 =>
  onV ((oBin Try.prog .leq 3 v2 (.int .i64 1000)).filter closed) fun v3 =>
  (f7_g44_9 call k v3 (d 5) (d 7) (d 9) (d 18) H) := by
  rw [o7_s 4 5, s7_87]
  refine onV_c fun v1 => ?_
  refine onV_c fun v2 => ?_
  refine onV_c fun v3 => ?_
  generalize e : (FG 412 d [(263, v3), (262, v3), (261, v3), (260, v2), (259, v1), (258, (.bool true))]) = a
  rw [show a = (FG 412 (gf a) [(263, v3)]) from (FG_eq (by subst e; exact FG_len) (FS_cons (by subst e; kernel_rfl) (FS_nil))).symm]
  exact (f7_g44_9_eq (d := gf a) call k).trans (by subst e; kernel_rfl)
theorem f7_g44_4_false (call : Handle) (k : Nat) : o7 0 call [1,1,1,1,1,1,1,1,1,1,1,0] 4 (FG 412 d [(258, (.bool false))]) H ((hSeq (g7 call k [1,1,1,1,1,1,1,1,1,1,1,1]) (hFin Try.prog Try.f7)) .normal) =
  (f7_r45 call k (d 5) (d 7) (d 9) (d 18) (.bool false) H) := by
  rw [s7_88]
  rw [hSeq_n]
  rw [n7_152]
  generalize e : (FG 412 d [(19, (.bool false)), (272, (.bool false)), (271, undef), (270, undef), (269, undef), (268, (.bool false)), (267, (.bool false)), (266, undef), (265, undef), (264, undef), (263, (.bool false)), (262, (.bool false)), (261, undef), (260, undef), (259, undef), (258, (.bool false))]) = a
  rw [show a = (FF 412 (gf a)) from (FF_gf (by subst e; exact FG_len)).symm]
  exact (f7_r45_eq (d := gf a) call k).trans (by subst e; kernel_rfl)
theorem f7_g44_4_eq (call : Handle) (k : Nat) : onGrd true xg (o7 0 call [1,1,1,1,1,1,1,1,1,1,1,0] 4 (FG 412 d [(258, xg)]) H ((hSeq (g7 call k [1,1,1,1,1,1,1,1,1,1,1,1]) (hFin Try.prog Try.f7)) .normal)) =
  f7_g44_4 call k xg (d 5) (d 7) (d 9) (d 18) H := by
  cases xg with
  | bool b => cases b with
    | true => exact onGrd_b.trans (f7_g44_4_true call k)
    | false => exact onGrd_b.trans (f7_g44_4_false call k)
  | _ => kernel_rfl
noncomputable def f7_r44 (call : Handle) (k : Nat) (x5 x7 x9 x18 : Value) (H : GH) : M (Value × GH) :=
  onV (oFieldAddr Try.prog 93 x18 0) fun v1 =>
  onV (gLoad Try.prog 3 v1 H) fun v2 =>
  onV ((oBin Try.prog .geq 3 v2 (.int .i64 1)).filter closed) fun v3 =>
  (f7_g44_4 call k v3 x5 x7 x9 x18 H)
theorem f7_r44_eq (call : Handle) (k : Nat) : g7 call k [1,1,1,1,1,1,1,1,1,1,1,0] (FF 412 d) H (hSeq (g7 call k [1,1,1,1,1,1,1,1,1,1,1,1]) (hFin Try.prog Try.f7)) = f7_r44 call k (d 5) (d 7) (d 9) (d 18) H := by
  unfold f7_r44
  rw [n7_142]
  rw [o7_s 0 4, s7_80]
  refine onV_c fun v1 => ?_
  refine onV_c fun v2 => ?_
  refine onV_c fun v3 => ?_
  generalize e : (FG 412 d [(258, v3), (257, v3), (256, v2), (255, v1)]) = a
  rw [show a = (FG 412 (gf a) [(258, v3)]) from (FG_eq (by subst e; exact FG_len) (FS_cons (by subst e; kernel_rfl) (FS_nil))).symm]
  exact (f7_g44_4_eq (d := gf a) call k).trans (by subst e; kernel_rfl)
noncomputable def f7_r41 (call : Handle) (k : Nat) (x5 x7 x9 : Value) (H : GH) : M (Value × GH) :=
  onV (gLoad Try.prog 88 x7 H) fun v1 =>
  onCall 0 call (.func (.func 34) #[] #[]) [v1] H fun v2 H3 =>
  onV ((oBin Try.prog .neq 27 v2 x9).filter closed) fun v4 =>
  onBool (asB v4)
  (some [((.bool false), H3)])
  (onV (oFieldAddr Try.prog 91 x5 1) fun v5 =>
  onV (gLoad Try.prog 3 v5 H3) fun v6 =>
  onV (oFieldAddr Try.prog 91 x5 2) fun v7 =>
  onV (gLoad Try.prog 3 v7 H3) fun v8 =>
  onV (oBuild Try.prog 93 [(0, v6), (1, v8)]) fun v9 =>
  onH (gStore Try.prog 93 (.pointer (some ⟨H3.n, 0, none⟩)) v9 (GH.push H3 (.row [(.int .i64 0), (.int .i64 0)] 93 false))) fun H10 =>
  (f7_r44 call k x5 x7 x9 (.pointer (some ⟨H3.n, 0, none⟩)) H10))
theorem f7_r41_eq (call : Handle) (k : Nat) : g7 call k [1,1,1,1,1,1,1,1,1] (FF 412 d) H (hFin Try.prog Try.f7) = f7_r41 call k (d 5) (d 7) (d 9) H := by
  unfold f7_r41
  rw [n7_118]
  rw [n7_119]
  rw [n7_120]
  rw [s7_64]
  refine onV_c fun v1 => ?_
  refine onCall_c fun v2 H3 => ?_
  refine onV_c fun v4 => ?_
  rw [hSeq_n]
  rw [n7_121]
  refine onBool_cc (by kernel_rfl) ?_ ?_
  · rw [n7_122]
    rw [n7_123]
    rw [s7_65]
    rw [hSeq_n]
    rw [n7_124]
    rw [hSeq_r]
    kernel_rfl
  · rw [n7_125]
    rw [hSeq_n]
    rw [n7_126]
    rw [n7_127]
    rw [s7_66]
    refine onV_c fun v5 => ?_
    refine onV_c fun v6 => ?_
    refine onV_c fun v7 => ?_
    refine onV_c fun v8 => ?_
    refine onV_c fun v9 => ?_
    refine onH_c fun H10 => ?_
    rw [hSeq_n]
    rw [n7_128]
    generalize e : (FG 412 d [(18, (.pointer (some ⟨H3.n, 0, none⟩))), (254, v9), (253, v8), (252, v7), (251, v6), (250, v5), (249, v4), (248, (d 9)), (247, v2), (246, v1)]) = a
    rw [show a = (FF 412 (gf a)) from (FF_gf (by subst e; exact FG_len)).symm]
    exact (f7_r44_eq (d := gf a) call k).trans (by subst e; kernel_rfl)
noncomputable def f7_r39 (call : Handle) (k : Nat) (x5 x7 x9 : Value) (H : GH) : M (Value × GH) :=
  onV (oFieldAddr Try.prog 88 x7 0) fun v1 =>
  onV (gLoad Try.prog 85 v1 H) fun v2 =>
  onV (oLen Try.prog 85 v2) fun v3 =>
  onV ((oBin Try.prog .gtr 3 v3 (.int .i64 512)).filter closed) fun v4 =>
  onBool (asB v4)
  ((f7_r41 call k x5 x7 (.int .i64 3) H))
  ((f7_r41 call k x5 x7 x9 H))
theorem f7_r39_eq (call : Handle) (k : Nat) : g7 call k [1,1,1,1,1,1,1,1] (FF 412 d) H (hFin Try.prog Try.f7) = f7_r39 call k (d 5) (d 7) (d 9) H := by
  unfold f7_r39
  rw [n7_103]
  rw [n7_104]
  rw [n7_105]
  rw [s7_54]
  refine onV_c fun v1 => ?_
  refine onV_c fun v2 => ?_
  refine onV_c fun v3 => ?_
  refine onV_c fun v4 => ?_
  rw [hSeq_n]
  rw [n7_106]
  refine onBool_cc (by kernel_rfl) ?_ ?_
  · rw [n7_107]
    rw [s7_55]
    rw [hSeq_n]
    generalize e : (FG 412 d [(9, (.int .i64 3)), (245, v4), (244, v3), (243, v2), (242, v1)]) = a
    rw [show a = (FF 412 (gf a)) from (FF_gf (by subst e; exact FG_len)).symm]
    exact (f7_r41_eq (d := gf a) call k).trans (by subst e; kernel_rfl)
  · rw [n7_108]
    rw [hSeq_n]
    generalize e : (FG 412 d [(245, v4), (244, v3), (243, v2), (242, v1)]) = a
    rw [show a = (FF 412 (gf a)) from (FF_gf (by subst e; exact FG_len)).symm]
    exact (f7_r41_eq (d := gf a) call k).trans (by subst e; kernel_rfl)
noncomputable def f7_r31 (call : Handle) (k : Nat) (sg_l24 : Sg4) (sg_l28 : Sg6) (x5 x7 x9 x14 x15 x16 : Value) (H : GH) : M (Value × GH) :=
  onV (oFieldAddr Try.prog 88 x7 0) fun v1 =>
  onV (gLoad Try.prog 85 v1 H) fun v2 =>
  onV (oIndexAddr Try.prog 85 v2 x16) fun v3 =>
  onV (oFieldAddr Try.prog 93 v3 1) fun v4 =>
  onV (gLoad Try.prog 3 v4 H) fun v5 =>
  onV ((oBin Try.prog .add 3 x15 v5).filter closed) fun v6 =>
  onV ((oBin Try.prog .add 3 x16 (.int .i64 1)).filter closed) fun v7 =>
  (sg_l28 x5 x7 x9 x14 v6 v7 H)
theorem f7_r31_eq (call : Handle) (k : Nat) (ag_l24 : AG) (sg_l24 : Sg4) (h_l24 : f7_l24_P ag_l24 sg_l24) (ag_l28 : AG) (sg_l28 : Sg6) (h_l28 : f7_l28_P ag_l28 sg_l28) : g7 call k [1,1,1,1,1,1,1,0,1,0,0,1,0,0,1,0,1,0,0,1,0,0,1,0] (FF 412 d) H (hBlock 9 (hSeq (g7 call k [1,1,1,1,1,1,1,0,1,0,0,1,0,0,1,0,1,0,0,1,1]) (hLoop ag_l28 (hBlock 8 (hSeq (g7 call k [1,1,1,1,1,1,1,0,1,0,0,1,0,0,1,1]) (hBlock 7 (hSeq (g7 call k [1,1,1,1,1,1,1,0,1,0,0,1,1]) (hLoop ag_l24 (hBlock 6 (hSeq (g7 call k [1,1,1,1,1,1,1,1]) (hFin Try.prog Try.f7))))))))))) = f7_r31 call k sg_l24 sg_l28 (d 5) (d 7) (d 9) (d 14) (d 15) (d 16) H := by
  unfold f7_r31
  rw [n7_131]
  rw [s7_76]
  refine onV_c fun v1 => ?_
  refine onV_c fun v2 => ?_
  refine onV_c fun v3 => ?_
  refine onV_c fun v4 => ?_
  refine onV_c fun v5 => ?_
  refine onV_c fun v6 => ?_
  rw [hBlock_n]
  rw [hSeq_n]
  rw [n7_132]
  rw [s7_77]
  refine onV_c fun v7 => ?_
  rw [hLoop_n]
  generalize e : (FG 412 d [(16, v7), (190, v7), (189, (d 16)), (15, v6), (211, v6), (210, v5), (209, v4), (208, v3), (207, (d 16)), (206, v2), (205, v1), (204, (d 15))]) = a
  rw [show a = (FF 412 (gf a)) from (FF_gf (by subst e; exact FG_len)).symm]
  exact (f7_l28_at (d := gf a) h_l28).trans (by subst e; kernel_rfl)
noncomputable def f7_r29 (call : Handle) (k : Nat) (sg_l24 : Sg4) (sg_l28 : Sg6) (x5 x7 x9 x14 x15 x16 : Value) (H : GH) : M (Value × GH) :=
  onV ((oBin Try.prog .add 3 x16 (.int .i64 1)).filter closed) fun v1 =>
  (sg_l28 x5 x7 x9 x14 x15 v1 H)
theorem f7_r29_eq (call : Handle) (k : Nat) (ag_l24 : AG) (sg_l24 : Sg4) (h_l24 : f7_l24_P ag_l24 sg_l24) (ag_l28 : AG) (sg_l28 : Sg6) (h_l28 : f7_l28_P ag_l28 sg_l28) : g7 call k [1,1,1,1,1,1,1,0,1,0,0,1,0,0,1,0,1,0,0,1,1] (FF 412 d) H (hLoop ag_l28 (hBlock 8 (hSeq (g7 call k [1,1,1,1,1,1,1,0,1,0,0,1,0,0,1,1]) (hBlock 7 (hSeq (g7 call k [1,1,1,1,1,1,1,0,1,0,0,1,1]) (hLoop ag_l24 (hBlock 6 (hSeq (g7 call k [1,1,1,1,1,1,1,1]) (hFin Try.prog Try.f7))))))))) = f7_r29 call k sg_l24 sg_l28 (d 5) (d 7) (d 9) (d 14) (d 15) (d 16) H := by
  unfold f7_r29
  rw [n7_132]
  rw [s7_78]
  refine onV_c fun v1 => ?_
  rw [hLoop_n]
  generalize e : (FG 412 d [(16, v1), (190, v1), (189, (d 16))]) = a
  rw [show a = (FF 412 (gf a)) from (FF_gf (by subst e; exact FG_len)).symm]
  exact (f7_l28_at (d := gf a) h_l28).trans (by subst e; kernel_rfl)
noncomputable def f7_r30 (call : Handle) (k : Nat) (sg_l24 : Sg4) (sg_l28 : Sg6) (x5 x7 x9 x14 x15 x16 : Value) (H : GH) : M (Value × GH) :=
  onV (oFieldAddr Try.prog 88 x7 0) fun v1 =>
  onV (gLoad Try.prog 85 v1 H) fun v2 =>
  onV (oIndexAddr Try.prog 85 v2 x16) fun v3 =>
  onV (oFieldAddr Try.prog 93 v3 0) fun v4 =>
  onV (gLoad Try.prog 3 v4 H) fun v5 =>
  onV (oFieldAddr Try.prog 88 x7 1) fun v6 =>
  onV (gLoad Try.prog 86 v6 H) fun v7 =>
  onV (oIndexAddr Try.prog 86 v7 x14) fun v8 =>
  onV (oFieldAddr Try.prog 91 v8 1) fun v9 =>
  onV (gLoad Try.prog 3 v9 H) fun v10 =>
  onV ((oBin Try.prog .eql 3 v5 v10).filter closed) fun v11 =>
  onBool (asB v11)
  ((f7_r31 call k (sg_l24) (sg_l28) x5 x7 x9 x14 x15 x16 H))
  ((f7_r29 call k (sg_l24) (sg_l28) x5 x7 x9 x14 x15 x16 H))
theorem f7_r30_eq (call : Handle) (k : Nat) (ag_l24 : AG) (sg_l24 : Sg4) (h_l24 : f7_l24_P ag_l24 sg_l24) (ag_l28 : AG) (sg_l28 : Sg6) (h_l28 : f7_l28_P ag_l28 sg_l28) : g7 call k [1,1,1,1,1,1,1,0,1,0,0,1,0,0,1,0,1,0,0,1,0,0,0] (FF 412 d) H (hSeq (g7 call k [1,1,1,1,1,1,1,0,1,0,0,1,0,0,1,0,1,0,0,1,0,0,1]) (hBlock 9 (hSeq (g7 call k [1,1,1,1,1,1,1,0,1,0,0,1,0,0,1,0,1,0,0,1,1]) (hLoop ag_l28 (hBlock 8 (hSeq (g7 call k [1,1,1,1,1,1,1,0,1,0,0,1,0,0,1,1]) (hBlock 7 (hSeq (g7 call k [1,1,1,1,1,1,1,0,1,0,0,1,1]) (hLoop ag_l24 (hBlock 6 (hSeq (g7 call k [1,1,1,1,1,1,1,1]) (hFin Try.prog Try.f7)))))))))))) = f7_r30 call k sg_l24 sg_l28 (d 5) (d 7) (d 9) (d 14) (d 15) (d 16) H := by
  unfold f7_r30
  rw [n7_110]
  rw [s7_62]
  refine onV_c fun v1 => ?_
  refine onV_c fun v2 => ?_
  refine onV_c fun v3 => ?_
  refine onV_c fun v4 => ?_
  refine onV_c fun v5 => ?_
  refine onV_c fun v6 => ?_
  refine onV_c fun v7 => ?_
  refine onV_c fun v8 => ?_
  refine onV_c fun v9 => ?_
  refine onV_c fun v10 => ?_
  refine onV_c fun v11 => ?_
  rw [hSeq_n]
  rw [n7_111]
  refine onBool_cc (by kernel_rfl) ?_ ?_
  · generalize e : (FG 412 d [(203, v11), (202, v10), (201, v9), (200, v8), (199, (d 14)), (198, v7), (197, v6), (196, v5), (195, v4), (194, v3), (193, (d 16)), (192, v2), (191, v1)]) = a
    rw [show a = (FF 412 (gf a)) from (FF_gf (by subst e; exact FG_len)).symm]
    exact (f7_r31_eq (d := gf a) call k ag_l24 sg_l24 h_l24 ag_l28 sg_l28 h_l28).trans (by subst e; kernel_rfl)
  · rw [n7_112]
    rw [hBlock_n]
    rw [hSeq_n]
    generalize e : (FG 412 d [(203, v11), (202, v10), (201, v9), (200, v8), (199, (d 14)), (198, v7), (197, v6), (196, v5), (195, v4), (194, v3), (193, (d 16)), (192, v2), (191, v1)]) = a
    rw [show a = (FF 412 (gf a)) from (FF_gf (by subst e; exact FG_len)).symm]
    exact (f7_r29_eq (d := gf a) call k ag_l24 sg_l24 h_l24 ag_l28 sg_l28 h_l28).trans (by subst e; kernel_rfl)
noncomputable def f7_r36 (call : Handle) (k : Nat) (sg_l24 : Sg4) (sg_l33 : Sg6) (x5 x7 x9 x14 x15 x17 : Value) (H : GH) : M (Value × GH) :=
  onV (oFieldAddr Try.prog 88 x7 1) fun v1 =>
  onV (gLoad Try.prog 86 v1 H) fun v2 =>
  onV (oIndexAddr Try.prog 86 v2 x17) fun v3 =>
  onV (oFieldAddr Try.prog 91 v3 2) fun v4 =>
  onV (gLoad Try.prog 3 v4 H) fun v5 =>
  onV ((oBin Try.prog .sub 3 x15 v5).filter closed) fun v6 =>
  onV ((oBin Try.prog .add 3 x17 (.int .i64 1)).filter closed) fun v7 =>
  (sg_l33 x5 x7 x9 x14 v6 v7 H)
theorem f7_r36_eq (call : Handle) (k : Nat) (ag_l24 : AG) (sg_l24 : Sg4) (h_l24 : f7_l24_P ag_l24 sg_l24) (ag_l33 : AG) (sg_l33 : Sg6) (h_l33 : f7_l33_P ag_l33 sg_l33) : g7 call k [1,1,1,1,1,1,1,0,1,0,0,1,0,0,1,1,0,1,0,0,1,0,0,1,0] (FF 412 d) H (hBlock 11 (hSeq (g7 call k [1,1,1,1,1,1,1,0,1,0,0,1,0,0,1,1,0,1,0,0,1,1]) (hLoop ag_l33 (hBlock 10 (hSeq (g7 call k [1,1,1,1,1,1,1,0,1,0,0,1,0,0,1,1,1]) (hBlock 7 (hSeq (g7 call k [1,1,1,1,1,1,1,0,1,0,0,1,1]) (hLoop ag_l24 (hBlock 6 (hSeq (g7 call k [1,1,1,1,1,1,1,1]) (hFin Try.prog Try.f7))))))))))) = f7_r36 call k sg_l24 sg_l33 (d 5) (d 7) (d 9) (d 14) (d 15) (d 17) H := by
  unfold f7_r36
  rw [n7_153]
  rw [s7_89]
  refine onV_c fun v1 => ?_
  refine onV_c fun v2 => ?_
  refine onV_c fun v3 => ?_
  refine onV_c fun v4 => ?_
  refine onV_c fun v5 => ?_
  refine onV_c fun v6 => ?_
  rw [hBlock_n]
  rw [hSeq_n]
  rw [n7_154]
  rw [s7_90]
  refine onV_c fun v7 => ?_
  rw [hLoop_n]
  generalize e : (FG 412 d [(17, v7), (218, v7), (217, (d 17)), (15, v6), (239, v6), (238, v5), (237, v4), (236, v3), (235, (d 17)), (234, v2), (233, v1), (232, (d 15))]) = a
  rw [show a = (FF 412 (gf a)) from (FF_gf (by subst e; exact FG_len)).symm]
  exact (f7_l33_at (d := gf a) h_l33).trans (by subst e; kernel_rfl)
noncomputable def f7_r34 (call : Handle) (k : Nat) (sg_l24 : Sg4) (sg_l33 : Sg6) (x5 x7 x9 x14 x15 x17 : Value) (H : GH) : M (Value × GH) :=
  onV ((oBin Try.prog .add 3 x17 (.int .i64 1)).filter closed) fun v1 =>
  (sg_l33 x5 x7 x9 x14 x15 v1 H)
theorem f7_r34_eq (call : Handle) (k : Nat) (ag_l24 : AG) (sg_l24 : Sg4) (h_l24 : f7_l24_P ag_l24 sg_l24) (ag_l33 : AG) (sg_l33 : Sg6) (h_l33 : f7_l33_P ag_l33 sg_l33) : g7 call k [1,1,1,1,1,1,1,0,1,0,0,1,0,0,1,1,0,1,0,0,1,1] (FF 412 d) H (hLoop ag_l33 (hBlock 10 (hSeq (g7 call k [1,1,1,1,1,1,1,0,1,0,0,1,0,0,1,1,1]) (hBlock 7 (hSeq (g7 call k [1,1,1,1,1,1,1,0,1,0,0,1,1]) (hLoop ag_l24 (hBlock 6 (hSeq (g7 call k [1,1,1,1,1,1,1,1]) (hFin Try.prog Try.f7))))))))) = f7_r34 call k sg_l24 sg_l33 (d 5) (d 7) (d 9) (d 14) (d 15) (d 17) H := by
  unfold f7_r34
  rw [n7_154]
  rw [s7_91]
  refine onV_c fun v1 => ?_
  rw [hLoop_n]
  generalize e : (FG 412 d [(17, v1), (218, v1), (217, (d 17))]) = a
  rw [show a = (FF 412 (gf a)) from (FF_gf (by subst e; exact FG_len)).symm]
  exact (f7_l33_at (d := gf a) h_l33).trans (by subst e; kernel_rfl)
noncomputable def f7_r35 (call : Handle) (k : Nat) (sg_l24 : Sg4) (sg_l33 : Sg6) (x5 x7 x9 x14 x15 x17 : Value) (H : GH) : M (Value × GH) :=
  onV (oFieldAddr Try.prog 88 x7 1) fun v1 =>
  onV (gLoad Try.prog 86 v1 H) fun v2 =>
  onV (oIndexAddr Try.prog 86 v2 x17) fun v3 =>
  onV (oFieldAddr Try.prog 91 v3 1) fun v4 =>
  onV (gLoad Try.prog 3 v4 H) fun v5 =>
  onV (oFieldAddr Try.prog 88 x7 1) fun v6 =>
  onV (gLoad Try.prog 86 v6 H) fun v7 =>
  onV (oIndexAddr Try.prog 86 v7 x14) fun v8 =>
  onV (oFieldAddr Try.prog 91 v8 1) fun v9 =>
  onV (gLoad Try.prog 3 v9 H) fun v10 =>
  onV ((oBin Try.prog .eql 3 v5 v10).filter closed) fun v11 =>
  onBool (asB v11)
  ((f7_r36 call k (sg_l24) (sg_l33) x5 x7 x9 x14 x15 x17 H))
  ((f7_r34 call k (sg_l24) (sg_l33) x5 x7 x9 x14 x15 x17 H))
theorem f7_r35_eq (call : Handle) (k : Nat) (ag_l24 : AG) (sg_l24 : Sg4) (h_l24 : f7_l24_P ag_l24 sg_l24) (ag_l33 : AG) (sg_l33 : Sg6) (h_l33 : f7_l33_P ag_l33 sg_l33) : g7 call k [1,1,1,1,1,1,1,0,1,0,0,1,0,0,1,1,0,1,0,0,1,0,0,0] (FF 412 d) H (hSeq (g7 call k [1,1,1,1,1,1,1,0,1,0,0,1,0,0,1,1,0,1,0,0,1,0,0,1]) (hBlock 11 (hSeq (g7 call k [1,1,1,1,1,1,1,0,1,0,0,1,0,0,1,1,0,1,0,0,1,1]) (hLoop ag_l33 (hBlock 10 (hSeq (g7 call k [1,1,1,1,1,1,1,0,1,0,0,1,0,0,1,1,1]) (hBlock 7 (hSeq (g7 call k [1,1,1,1,1,1,1,0,1,0,0,1,1]) (hLoop ag_l24 (hBlock 6 (hSeq (g7 call k [1,1,1,1,1,1,1,1]) (hFin Try.prog Try.f7)))))))))))) = f7_r35 call k sg_l24 sg_l33 (d 5) (d 7) (d 9) (d 14) (d 15) (d 17) H := by
  unfold f7_r35
  rw [n7_143]
  rw [s7_82]
  refine onV_c fun v1 => ?_
  refine onV_c fun v2 => ?_
  refine onV_c fun v3 => ?_
  refine onV_c fun v4 => ?_
  refine onV_c fun v5 => ?_
  refine onV_c fun v6 => ?_
  refine onV_c fun v7 => ?_
  refine onV_c fun v8 => ?_
  refine onV_c fun v9 => ?_
  refine onV_c fun v10 => ?_
  refine onV_c fun v11 => ?_
  rw [hSeq_n]
  rw [n7_144]
  refine onBool_cc (by kernel_rfl) ?_ ?_
  · generalize e : (FG 412 d [(231, v11), (230, v10), (229, v9), (228, v8), (227, (d 14)), (226, v7), (225, v6), (224, v5), (223, v4), (222, v3), (221, (d 17)), (220, v2), (219, v1)]) = a
    rw [show a = (FF 412 (gf a)) from (FF_gf (by subst e; exact FG_len)).symm]
    exact (f7_r36_eq (d := gf a) call k ag_l24 sg_l24 h_l24 ag_l33 sg_l33 h_l33).trans (by subst e; kernel_rfl)
  · rw [n7_145]
    rw [hBlock_n]
    rw [hSeq_n]
    generalize e : (FG 412 d [(231, v11), (230, v10), (229, v9), (228, v8), (227, (d 14)), (226, v7), (225, v6), (224, v5), (223, v4), (222, v3), (221, (d 17)), (220, v2), (219, v1)]) = a
    rw [show a = (FF 412 (gf a)) from (FF_gf (by subst e; exact FG_len)).symm]
    exact (f7_r34_eq (d := gf a) call k ag_l24 sg_l24 h_l24 ag_l33 sg_l33 h_l33).trans (by subst e; kernel_rfl)
noncomputable def f7_r37 (call : Handle) (k : Nat) (sg_l24 : Sg4) (x5 x7 x9 x14 x15 : Value) (H : GH) : M (Value × GH) :=
  onV ((oBin Try.prog .lss 3 x15 (.int .i64 0)).filter closed) fun v1 =>
  onBool (asB v1)
  (onV ((oBin Try.prog .add 3 x14 (.int .i64 1)).filter closed) fun v2 =>
  (sg_l24 x5 x7 (.int .i64 18) v2 H))
  (onV ((oBin Try.prog .add 3 x14 (.int .i64 1)).filter closed) fun v3 =>
  (sg_l24 x5 x7 x9 v3 H))
theorem f7_r37_eq (call : Handle) (k : Nat) (ag_l24 : AG) (sg_l24 : Sg4) (h_l24 : f7_l24_P ag_l24 sg_l24) : g7 call k [1,1,1,1,1,1,1,0,1,0,0,1,0,0,1,1,1] (FF 412 d) H (hBlock 7 (hSeq (g7 call k [1,1,1,1,1,1,1,0,1,0,0,1,1]) (hLoop ag_l24 (hBlock 6 (hSeq (g7 call k [1,1,1,1,1,1,1,1]) (hFin Try.prog Try.f7)))))) = f7_r37 call k sg_l24 (d 5) (d 7) (d 9) (d 14) (d 15) H := by
  unfold f7_r37
  rw [n7_146]
  rw [n7_147]
  rw [s7_83]
  refine onV_c fun v1 => ?_
  rw [hSeq_n]
  rw [n7_148]
  refine onBool_cc (by kernel_rfl) ?_ ?_
  · rw [n7_149]
    rw [s7_84]
    rw [hBlock_n]
    rw [hSeq_n]
    rw [n7_150]
    rw [s7_85]
    refine onV_c fun v2 => ?_
    rw [hLoop_n]
    generalize e : (FG 412 d [(14, v2), (183, v2), (182, (d 14)), (9, (.int .i64 18)), (241, v1), (240, (d 15))]) = a
    rw [show a = (FF 412 (gf a)) from (FF_gf (by subst e; exact FG_len)).symm]
    exact (f7_l24_at (d := gf a) h_l24).trans (by subst e; kernel_rfl)
  · rw [n7_151]
    rw [hBlock_n]
    rw [hSeq_n]
    rw [n7_150]
    rw [s7_86]
    refine onV_c fun v3 => ?_
    rw [hLoop_n]
    generalize e : (FG 412 d [(14, v3), (183, v3), (182, (d 14)), (241, v1), (240, (d 15))]) = a
    rw [show a = (FF 412 (gf a)) from (FF_gf (by subst e; exact FG_len)).symm]
    exact (f7_l24_at (d := gf a) h_l24).trans (by subst e; kernel_rfl)
noncomputable def f7_l33b (call : Handle) (k : Nat) (sg_l24 : Sg4) (sg_l33 : Sg6) (x5 x7 x9 x14 x15 x17 : Value) (H : GH) : M (Value × GH) :=
  onV (oFieldAddr Try.prog 88 x7 1) fun v1 =>
  onV (gLoad Try.prog 86 v1 H) fun v2 =>
  onV (oLen Try.prog 86 v2) fun v3 =>
  onV ((oBin Try.prog .lss 3 x17 v3).filter closed) fun v4 =>
  onBool (asB v4)
  ((f7_r35 call k (sg_l24) (sg_l33) x5 x7 x9 x14 x15 x17 H))
  ((f7_r37 call k (sg_l24) x5 x7 x9 x14 x15 H))
theorem f7_l33b_eq (call : Handle) (k : Nat) (ag_l24 : AG) (sg_l24 : Sg4) (h_l24 : f7_l24_P ag_l24 sg_l24) (ag_l33 : AG) (sg_l33 : Sg6) (h_l33 : f7_l33_P ag_l33 sg_l33) : g7 call k [1,1,1,1,1,1,1,0,1,0,0,1,0,0,1,1,0,1,0,0] (FF 412 d) H (hLoop ag_l33 (hBlock 10 (hSeq (g7 call k [1,1,1,1,1,1,1,0,1,0,0,1,0,0,1,1,1]) (hBlock 7 (hSeq (g7 call k [1,1,1,1,1,1,1,0,1,0,0,1,1]) (hLoop ag_l24 (hBlock 6 (hSeq (g7 call k [1,1,1,1,1,1,1,1]) (hFin Try.prog Try.f7))))))))) = f7_l33b call k sg_l24 sg_l33 (d 5) (d 7) (d 9) (d 14) (d 15) (d 17) H := by
  unfold f7_l33b
  rw [n7_133]
  rw [n7_134]
  rw [n7_135]
  rw [s7_79]
  refine onV_c fun v1 => ?_
  refine onV_c fun v2 => ?_
  refine onV_c fun v3 => ?_
  refine onV_c fun v4 => ?_
  rw [hSeq_n]
  rw [n7_136]
  refine onBool_cc (by kernel_rfl) ?_ ?_
  · rw [n7_137]
    rw [hSeq_n]
    rw [n7_138]
    rw [n7_139]
    rw [n7_140]
    generalize e : (FG 412 d [(216, v4), (215, v3), (214, v2), (213, v1), (212, (d 17))]) = a
    rw [show a = (FF 412 (gf a)) from (FF_gf (by subst e; exact FG_len)).symm]
    exact (f7_r35_eq (d := gf a) call k ag_l24 sg_l24 h_l24 ag_l33 sg_l33 h_l33).trans (by subst e; kernel_rfl)
  · rw [n7_141]
    rw [hSeq_e, hLoop_e, hBlock_hit]
    rw [hSeq_n]
    generalize e : (FG 412 d [(216, v4), (215, v3), (214, v2), (213, v1), (212, (d 17))]) = a
    rw [show a = (FF 412 (gf a)) from (FF_gf (by subst e; exact FG_len)).symm]
    exact (f7_r37_eq (d := gf a) call k ag_l24 sg_l24 h_l24).trans (by subst e; kernel_rfl)
noncomputable def f7_l33 (call : Handle) (k : Nat) (sg_l24 : Sg4) : Nat → Value → Value → Value → Value → Value → Value → GH → M (Value × GH)
  | 0, _, _, _, _, _, _, _ => none
  | r + 1, x5, x7, x9, x14, x15, x17, H => f7_l33b call k sg_l24 (f7_l33 call k sg_l24 r) x5 x7 x9 x14 x15 x17 H
theorem f7_l33_eq (call : Handle) (k : Nat) (ag_l24 : AG) (sg_l24 : Sg4) (h_l24 : f7_l24_P ag_l24 sg_l24) : ∀ (r : Nat), f7_l33_P (gLoop (g7 call k [1,1,1,1,1,1,1,0,1,0,0,1,0,0,1,1,0,1,0,0]) (hBlock 10 (hSeq (g7 call k [1,1,1,1,1,1,1,0,1,0,0,1,0,0,1,1,1]) (hBlock 7 (hSeq (g7 call k [1,1,1,1,1,1,1,0,1,0,0,1,1]) (hLoop ag_l24 (hBlock 6 (hSeq (g7 call k [1,1,1,1,1,1,1,1]) (hFin Try.prog Try.f7)))))))) r) (f7_l33 call k sg_l24 r) := by
  intro r
  induction r with
  | zero => unfold f7_l33_P; intros; rfl
  | succ r ih => unfold f7_l33_P; intros; exact f7_l33b_eq call k ag_l24 sg_l24 h_l24 _ _ ih
noncomputable def f7_r32 (call : Handle) (k : Nat) (sg_l24 : Sg4) (x5 x7 x9 x14 x15 : Value) (H : GH) : M (Value × GH) :=
  (f7_l33 call k (sg_l24) k x5 x7 x9 x14 x15 (.int .i64 0) H)
theorem f7_r32_eq (call : Handle) (k : Nat) (ag_l24 : AG) (sg_l24 : Sg4) (h_l24 : f7_l24_P ag_l24 sg_l24) : g7 call k [1,1,1,1,1,1,1,0,1,0,0,1,0,0,1,1] (FF 412 d) H (hBlock 7 (hSeq (g7 call k [1,1,1,1,1,1,1,0,1,0,0,1,1]) (hLoop ag_l24 (hBlock 6 (hSeq (g7 call k [1,1,1,1,1,1,1,1]) (hFin Try.prog Try.f7)))))) = f7_r32 call k sg_l24 (d 5) (d 7) (d 9) (d 14) (d 15) H := by
  unfold f7_r32
  rw [n7_113]
  rw [n7_114]
  rw [n7_115]
  rw [s7_63]
  rw [hSeq_n]
  rw [n7_116]
  rw [n7_117]
  generalize e : (FG 412 d [(17, (.int .i64 0))]) = a
  rw [show a = (FF 412 (gf a)) from (FF_gf (by subst e; exact FG_len)).symm]
  exact (f7_l33_at (d := gf a) (f7_l33_eq call k ag_l24 sg_l24 h_l24 k)).trans (by subst e; kernel_rfl)
noncomputable def f7_l28b (call : Handle) (k : Nat) (sg_l24 : Sg4) (sg_l28 : Sg6) (x5 x7 x9 x14 x15 x16 : Value) (H : GH) : M (Value × GH) :=
  onV (oFieldAddr Try.prog 88 x7 0) fun v1 =>
  onV (gLoad Try.prog 85 v1 H) fun v2 =>
  onV (oLen Try.prog 85 v2) fun v3 =>
  onV ((oBin Try.prog .lss 3 x16 v3).filter closed) fun v4 =>
  onBool (asB v4)
  ((f7_r30 call k (sg_l24) (sg_l28) x5 x7 x9 x14 x15 x16 H))
  ((f7_r32 call k (sg_l24) x5 x7 x9 x14 x15 H))
theorem f7_l28b_eq (call : Handle) (k : Nat) (ag_l24 : AG) (sg_l24 : Sg4) (h_l24 : f7_l24_P ag_l24 sg_l24) (ag_l28 : AG) (sg_l28 : Sg6) (h_l28 : f7_l28_P ag_l28 sg_l28) : g7 call k [1,1,1,1,1,1,1,0,1,0,0,1,0,0,1,0,1,0,0] (FF 412 d) H (hLoop ag_l28 (hBlock 8 (hSeq (g7 call k [1,1,1,1,1,1,1,0,1,0,0,1,0,0,1,1]) (hBlock 7 (hSeq (g7 call k [1,1,1,1,1,1,1,0,1,0,0,1,1]) (hLoop ag_l24 (hBlock 6 (hSeq (g7 call k [1,1,1,1,1,1,1,1]) (hFin Try.prog Try.f7))))))))) = f7_l28b call k sg_l24 sg_l28 (d 5) (d 7) (d 9) (d 14) (d 15) (d 16) H := by
  unfold f7_l28b
  rw [n7_94]
  rw [n7_95]
  rw [n7_96]
  rw [s7_53]
  refine onV_c fun v1 => ?_
  refine onV_c fun v2 => ?_
  refine onV_c fun v3 => ?_
  refine onV_c fun v4 => ?_
  rw [hSeq_n]
  rw [n7_97]
  refine onBool_cc (by kernel_rfl) ?_ ?_
  · rw [n7_98]
    rw [hSeq_n]
    rw [n7_99]
    rw [n7_100]
    rw [n7_101]
    generalize e : (FG 412 d [(188, v4), (187, v3), (186, v2), (185, v1), (184, (d 16))]) = a
    rw [show a = (FF 412 (gf a)) from (FF_gf (by subst e; exact FG_len)).symm]
    exact (f7_r30_eq (d := gf a) call k ag_l24 sg_l24 h_l24 ag_l28 sg_l28 h_l28).trans (by subst e; kernel_rfl)
  · rw [n7_102]
    rw [hSeq_e, hLoop_e, hBlock_hit]
    rw [hSeq_n]
    generalize e : (FG 412 d [(188, v4), (187, v3), (186, v2), (185, v1), (184, (d 16))]) = a
    rw [show a = (FF 412 (gf a)) from (FF_gf (by subst e; exact FG_len)).symm]
    exact (f7_r32_eq (d := gf a) call k ag_l24 sg_l24 h_l24).trans (by subst e; kernel_rfl)
noncomputable def f7_l28 (call : Handle) (k : Nat) (sg_l24 : Sg4) : Nat → Value → Value → Value → Value → Value → Value → GH → M (Value × GH)
  | 0, _, _, _, _, _, _, _ => none
  | r + 1, x5, x7, x9, x14, x15, x16, H => f7_l28b call k sg_l24 (f7_l28 call k sg_l24 r) x5 x7 x9 x14 x15 x16 H
theorem f7_l28_eq (call : Handle) (k : Nat) (ag_l24 : AG) (sg_l24 : Sg4) (h_l24 : f7_l24_P ag_l24 sg_l24) : ∀ (r : Nat), f7_l28_P (gLoop (g7 call k [1,1,1,1,1,1,1,0,1,0,0,1,0,0,1,0,1,0,0]) (hBlock 8 (hSeq (g7 call k [1,1,1,1,1,1,1,0,1,0,0,1,0,0,1,1]) (hBlock 7 (hSeq (g7 call k [1,1,1,1,1,1,1,0,1,0,0,1,1]) (hLoop ag_l24 (hBlock 6 (hSeq (g7 call k [1,1,1,1,1,1,1,1]) (hFin Try.prog Try.f7)))))))) r) (f7_l28 call k sg_l24 r) := by
  intro r
  induction r with
  | zero => unfold f7_l28_P; intros; rfl
  | succ r ih => unfold f7_l28_P; intros; exact f7_l28b_eq call k ag_l24 sg_l24 h_l24 _ _ ih
noncomputable def f7_g24_6 (call : Handle) (k : Nat) (sg_l24 : Sg4) (x178 : Value) (x5 x7 x9 x14 : Value) (H : GH) : M (Value × GH) :=
 onBool (asB x178)
  (onV ((oBin Try.prog .eql 27 x9 (.int .i64 0)).filter closed) fun v1 =>
  onBool (asB v1)
  ((f7_l28 call k (sg_l24) k x5 x7 x9 x14 (.int .i64 0) (.int .i64 0) H))
  ((f7_r39 call k x5 x7 x9 H)))
  ((f7_r39 call k x5 x7 x9 H))
theorem f7_g24_6_true (call : Handle) (k : Nat) (ag_l24 : AG) (sg_l24 : Sg4) (h_l24 : f7_l24_P ag_l24 sg_l24) : o7 0 call [1,1,1,1,1,1,1,0,1,0,0,0,0] 6 (FG 412 d [(178, (.bool true))]) H ((hSeq (g7 call k [1,1,1,1,1,1,1,0,1,0,0,0,1]) (hSeq (g7 call k [1,1,1,1,1,1,1,0,1,0,0,1]) (hLoop ag_l24 (hBlock 6 (hSeq (g7 call k [1,1,1,1,1,1,1,1]) (hFin Try.prog Try.f7)))))) .normal) =
  onV ((oBin Try.prog .eql 27 (d 9) (.int .i64 0)).filter closed) fun v1 =>
  onBool (asB v1)
  ((f7_l28 call k (sg_l24) k (d 5) (d 7) (d 9) (d 14) (.int .i64 0) (.int .i64 0) H))
  ((f7_r39 call k (d 5) (d 7) (d 9) H)) := by
  rw [s7_45]
  refine onV_c fun v1 => ?_
  rw [hSeq_n]
  rw [n7_80]
  refine onBool_cc (by kernel_rfl) ?_ ?_
  · rw [n7_81]
    rw [hSeq_n]
    rw [n7_82]
    rw [n7_83]
    rw [n7_84]
    rw [n7_85]
    rw [s7_46]
    rw [hSeq_n]
    rw [n7_86]
    rw [n7_87]
    rw [n7_88]
    rw [s7_47]
    rw [hSeq_n]
    rw [n7_89]
    rw [n7_90]
    generalize e : (FG 412 d [(16, (.int .i64 0)), (15, (.int .i64 0)), (181, v1), (180, v1), (179, (d 9)), (178, (.bool true))]) = a
    rw [show a = (FF 412 (gf a)) from (FF_gf (by subst e; exact FG_len)).symm]
    exact (f7_l28_at (d := gf a) (f7_l28_eq call k ag_l24 sg_l24 h_l24 k)).trans (by subst e; kernel_rfl)
  · rw [n7_91]
    rw [hSeq_e, hLoop_e, hBlock_hit]
    rw [hSeq_n]
    generalize e : (FG 412 d [(181, v1), (180, v1), (179, (d 9)), (178, (.bool true))]) = a
    rw [show a = (FF 412 (gf a)) from (FF_gf (by subst e; exact FG_len)).symm]
    exact (f7_r39_eq (d := gf a) call k).trans (by subst e; kernel_rfl)
theorem f7_g24_6_false (call : Handle) (k : Nat) (ag_l24 : AG) (sg_l24 : Sg4) (h_l24 : f7_l24_P ag_l24 sg_l24) : o7 0 call [1,1,1,1,1,1,1,0,1,0,0,0,0] 6 (FG 412 d [(178, (.bool false))]) H ((hSeq (g7 call k [1,1,1,1,1,1,1,0,1,0,0,0,1]) (hSeq (g7 call k [1,1,1,1,1,1,1,0,1,0,0,1]) (hLoop ag_l24 (hBlock 6 (hSeq (g7 call k [1,1,1,1,1,1,1,1]) (hFin Try.prog Try.f7)))))) .normal) =
  (f7_r39 call k (d 5) (d 7) (d 9) H) := by
  rw [s7_48]
  rw [hSeq_n]
  rw [n7_80]
  refine (onBool_ff (by kernel_rfl)).trans ?_
  rw [n7_91]
  rw [hSeq_e, hLoop_e, hBlock_hit]
  rw [hSeq_n]
  generalize e : (FG 412 d [(181, (.bool false)), (180, undef), (179, undef), (178, (.bool false))]) = a
  rw [show a = (FF 412 (gf a)) from (FF_gf (by subst e; exact FG_len)).symm]
  exact (f7_r39_eq (d := gf a) call k).trans (by subst e; kernel_rfl)
theorem f7_g24_6_eq (call : Handle) (k : Nat) (ag_l24 : AG) (sg_l24 : Sg4) (h_l24 : f7_l24_P ag_l24 sg_l24) : onGrd true xg (o7 0 call [1,1,1,1,1,1,1,0,1,0,0,0,0] 6 (FG 412 d [(178, xg)]) H ((hSeq (g7 call k [1,1,1,1,1,1,1,0,1,0,0,0,1]) (hSeq (g7 call k [1,1,1,1,1,1,1,0,1,0,0,1]) (hLoop ag_l24 (hBlock 6 (hSeq (g7 call k [1,1,1,1,1,1,1,1]) (hFin Try.prog Try.f7)))))) .normal)) =
  f7_g24_6 call k sg_l24 xg (d 5) (d 7) (d 9) (d 14) H := by
  cases xg with
  | bool b => cases b with
    | true => exact onGrd_b.trans (f7_g24_6_true call k ag_l24 sg_l24 h_l24)
    | false => exact onGrd_b.trans (f7_g24_6_false call k ag_l24 sg_l24 h_l24)
  | _ => kernel_rfl
noncomputable def f7_l24b (call : Handle) (k : Nat) (sg_l24 : Sg4) (x5 x7 x9 x14 : Value) (H : GH) : M (Value × GH) :=
  onV (oFieldAddr Try.prog 88 x7 1) fun v1 =>
  onV (gLoad Try.prog 86 v1 H) fun v2 =>
  onV (oLen Try.prog 86 v2) fun v3 =>
  onV ((oBin Try.prog .lss 3 x14 v3).filter closed) fun v4 =>
  (f7_g24_6 call k (sg_l24) v4 x5 x7 x9 x14 H)
theorem f7_l24b_eq (call : Handle) (k : Nat) (ag_l24 : AG) (sg_l24 : Sg4) (h_l24 : f7_l24_P ag_l24 sg_l24) : g7 call k [1,1,1,1,1,1,1,0,1,0,0] (FF 412 d) H (hLoop ag_l24 (hBlock 6 (hSeq (g7 call k [1,1,1,1,1,1,1,1]) (hFin Try.prog Try.f7)))) = f7_l24b call k sg_l24 (d 5) (d 7) (d 9) (d 14) H := by
  unfold f7_l24b
  rw [n7_74]
  rw [n7_75]
  rw [n7_76]
  rw [o7_s 0 6, s7_40]
  refine onV_c fun v1 => ?_
  refine onV_c fun v2 => ?_
  refine onV_c fun v3 => ?_
  refine onV_c fun v4 => ?_
  generalize e : (FG 412 d [(178, v4), (177, v4), (176, v3), (175, v2), (174, v1), (173, (d 14))]) = a
  rw [show a = (FG 412 (gf a) [(178, v4)]) from (FG_eq (by subst e; exact FG_len) (FS_cons (by subst e; kernel_rfl) (FS_nil))).symm]
  exact (f7_g24_6_eq (d := gf a) call k ag_l24 sg_l24 h_l24).trans (by subst e; kernel_rfl)
noncomputable def f7_l24 (call : Handle) (k : Nat) : Nat → Value → Value → Value → Value → GH → M (Value × GH)
  | 0, _, _, _, _, _ => none
  | r + 1, x5, x7, x9, x14, H => f7_l24b call k (f7_l24 call k r) x5 x7 x9 x14 H
theorem f7_l24_eq (call : Handle) (k : Nat) : ∀ (r : Nat), f7_l24_P (gLoop (g7 call k [1,1,1,1,1,1,1,0,1,0,0]) (hBlock 6 (hSeq (g7 call k [1,1,1,1,1,1,1,1]) (hFin Try.prog Try.f7))) r) (f7_l24 call k r) := by
  intro r
  induction r with
  | zero => unfold f7_l24_P; intros; rfl
  | succ r ih => unfold f7_l24_P; intros; exact f7_l24b_eq call k _ _ ih
noncomputable def f7_r23 (call : Handle) (k : Nat) (x5 x7 x9 : Value) (H : GH) : M (Value × GH) :=
  (f7_l24 call k k x5 x7 x9 (.int .i64 0) H)
theorem f7_r23_eq (call : Handle) (k : Nat) : g7 call k [1,1,1,1,1,1,1] (FF 412 d) H (hFin Try.prog Try.f7) = f7_r23 call k (d 5) (d 7) (d 9) H := by
  unfold f7_r23
  rw [n7_67]
  rw [n7_68]
  rw [n7_69]
  rw [s7_30]
  rw [hSeq_n]
  rw [n7_70]
  rw [n7_71]
  generalize e : (FG 412 d [(14, (.int .i64 0))]) = a
  rw [show a = (FF 412 (gf a)) from (FF_gf (by subst e; exact FG_len)).symm]
  exact (f7_l24_at (d := gf a) (f7_l24_eq call k k)).trans (by subst e; kernel_rfl)
noncomputable def f7_l16b (call : Handle) (k : Nat) (sg_l16 : Sg4) (x5 x7 x9 x12 : Value) (H : GH) : M (Value × GH) :=
  onV (oFieldAddr Try.prog 88 x7 1) fun v1 =>
  onV (gLoad Try.prog 86 v1 H) fun v2 =>
  onV (oLen Try.prog 86 v2) fun v3 =>
  onV ((oBin Try.prog .lss 3 x12 v3).filter closed) fun v4 =>
  onBool (asB v4)
  (onV (oFieldAddr Try.prog 88 x7 1) fun v5 =>
  onV (gLoad Try.prog 86 v5 H) fun v6 =>
  onV (oIndexAddr Try.prog 86 v6 x12) fun v7 =>
  onV (gLoad Try.prog 91 v7 H) fun v8 =>
  onH (gStore Try.prog 91 (.pointer (some ⟨H.n, 0, none⟩)) v8 (GH.push H (.row [(.int .i64 0), (.int .i64 0), (.int .i64 0)] 91 false))) fun H9 =>
  (f7_r19 call k (sg_l16) x5 x7 x9 x12 (.pointer (some ⟨H.n, 0, none⟩)) H9))
  ((f7_r23 call k x5 x7 x9 H))
theorem f7_l16b_eq (call : Handle) (k : Nat) (ag_l16 : AG) (sg_l16 : Sg4) (h_l16 : f7_l16_P ag_l16 sg_l16) : g7 call k [1,1,1,1,1,1,0,1,0,0] (FF 412 d) H (hLoop ag_l16 (hBlock 4 (hSeq (g7 call k [1,1,1,1,1,1,1]) (hFin Try.prog Try.f7)))) = f7_l16b call k sg_l16 (d 5) (d 7) (d 9) (d 12) H := by
  unfold f7_l16b
  rw [n7_52]
  rw [n7_53]
  rw [n7_54]
  rw [s7_21]
  refine onV_c fun v1 => ?_
  refine onV_c fun v2 => ?_
  refine onV_c fun v3 => ?_
  refine onV_c fun v4 => ?_
  rw [hSeq_n]
  rw [n7_55]
  refine onBool_cc (by kernel_rfl) ?_ ?_
  · rw [n7_56]
    rw [hSeq_n]
    rw [n7_57]
    rw [n7_58]
    rw [n7_59]
    rw [n7_60]
    rw [s7_22]
    refine onV_c fun v5 => ?_
    refine onV_c fun v6 => ?_
    refine onV_c fun v7 => ?_
    refine onV_c fun v8 => ?_
    refine onH_c fun H9 => ?_
    rw [hSeq_n]
    rw [n7_61]
    rw [n7_62]
    generalize e : (FG 412 d [(13, (.pointer (some ⟨H.n, 0, none⟩))), (106, v8), (105, v7), (104, (d 12)), (103, v6), (102, v5), (99, v4), (98, v3), (97, v2), (96, v1), (95, (d 12))]) = a
    rw [show a = (FF 412 (gf a)) from (FF_gf (by subst e; exact FG_len)).symm]
    exact (f7_r19_eq (d := gf a) call k ag_l16 sg_l16 h_l16).trans (by subst e; kernel_rfl)
  · rw [n7_63]
    rw [hSeq_e, hLoop_e, hBlock_hit]
    rw [hSeq_n]
    generalize e : (FG 412 d [(99, v4), (98, v3), (97, v2), (96, v1), (95, (d 12))]) = a
    rw [show a = (FF 412 (gf a)) from (FF_gf (by subst e; exact FG_len)).symm]
    exact (f7_r23_eq (d := gf a) call k).trans (by subst e; kernel_rfl)
noncomputable def f7_l16 (call : Handle) (k : Nat) : Nat → Value → Value → Value → Value → GH → M (Value × GH)
  | 0, _, _, _, _, _ => none
  | r + 1, x5, x7, x9, x12, H => f7_l16b call k (f7_l16 call k r) x5 x7 x9 x12 H
theorem f7_l16_eq (call : Handle) (k : Nat) : ∀ (r : Nat), f7_l16_P (gLoop (g7 call k [1,1,1,1,1,1,0,1,0,0]) (hBlock 4 (hSeq (g7 call k [1,1,1,1,1,1,1]) (hFin Try.prog Try.f7))) r) (f7_l16 call k r) := by
  intro r
  induction r with
  | zero => unfold f7_l16_P; intros; rfl
  | succ r ih => unfold f7_l16_P; intros; exact f7_l16b_eq call k _ _ ih
noncomputable def f7_r15 (call : Handle) (k : Nat) (x5 x7 x9 : Value) (H : GH) : M (Value × GH) :=
  (f7_l16 call k k x5 x7 x9 (.int .i64 0) H)
theorem f7_r15_eq (call : Handle) (k : Nat) : g7 call k [1,1,1,1,1,1] (FF 412 d) H (hFin Try.prog Try.f7) = f7_r15 call k (d 5) (d 7) (d 9) H := by
  unfold f7_r15
  rw [n7_46]
  rw [n7_47]
  rw [n7_48]
  rw [s7_18]
  rw [hSeq_n]
  rw [n7_49]
  rw [n7_50]
  generalize e : (FG 412 d [(12, (.int .i64 0))]) = a
  rw [show a = (FF 412 (gf a)) from (FF_gf (by subst e; exact FG_len)).symm]
  exact (f7_l16_at (d := gf a) (f7_l16_eq call k k)).trans (by subst e; kernel_rfl)
noncomputable def f7_l10b (call : Handle) (k : Nat) (sg_l10 : Sg4) (x5 x7 x9 x10 : Value) (H : GH) : M (Value × GH) :=
  onV (oFieldAddr Try.prog 88 x7 0) fun v1 =>
  onV (gLoad Try.prog 85 v1 H) fun v2 =>
  onV (oLen Try.prog 85 v2) fun v3 =>
  onV ((oBin Try.prog .lss 3 x10 v3).filter closed) fun v4 =>
  onBool (asB v4)
  (onV (oFieldAddr Try.prog 88 x7 0) fun v5 =>
  onV (gLoad Try.prog 85 v5 H) fun v6 =>
  onV (oIndexAddr Try.prog 85 v6 x10) fun v7 =>
  onV (gLoad Try.prog 93 v7 H) fun v8 =>
  onH (gStore Try.prog 93 (.pointer (some ⟨H.n, 0, none⟩)) v8 (GH.push H (.row [(.int .i64 0), (.int .i64 0)] 93 false))) fun H9 =>
  (f7_r13 call k (sg_l10) x5 x7 x9 x10 (.pointer (some ⟨H.n, 0, none⟩)) H9))
  ((f7_r15 call k x5 x7 x9 H))
theorem f7_l10b_eq (call : Handle) (k : Nat) (ag_l10 : AG) (sg_l10 : Sg4) (h_l10 : f7_l10_P ag_l10 sg_l10) : g7 call k [1,1,1,1,1,0,1,0,0] (FF 412 d) H (hLoop ag_l10 (hBlock 2 (hSeq (g7 call k [1,1,1,1,1,1]) (hFin Try.prog Try.f7)))) = f7_l10b call k sg_l10 (d 5) (d 7) (d 9) (d 10) H := by
  unfold f7_l10b
  rw [n7_34]
  rw [n7_35]
  rw [n7_36]
  rw [s7_15]
  refine onV_c fun v1 => ?_
  refine onV_c fun v2 => ?_
  refine onV_c fun v3 => ?_
  refine onV_c fun v4 => ?_
  rw [hSeq_n]
  rw [n7_37]
  refine onBool_cc (by kernel_rfl) ?_ ?_
  · rw [n7_38]
    rw [hSeq_n]
    rw [n7_39]
    rw [n7_40]
    rw [n7_41]
    rw [n7_42]
    rw [s7_16]
    refine onV_c fun v5 => ?_
    refine onV_c fun v6 => ?_
    refine onV_c fun v7 => ?_
    refine onV_c fun v8 => ?_
    refine onH_c fun H9 => ?_
    rw [hSeq_n]
    rw [n7_43]
    generalize e : (FG 412 d [(11, (.pointer (some ⟨H.n, 0, none⟩))), (76, v8), (75, v7), (74, (d 10)), (73, v6), (72, v5), (69, v4), (68, v3), (67, v2), (66, v1), (65, (d 10))]) = a
    rw [show a = (FF 412 (gf a)) from (FF_gf (by subst e; exact FG_len)).symm]
    exact (f7_r13_eq (d := gf a) call k ag_l10 sg_l10 h_l10).trans (by subst e; kernel_rfl)
  · rw [n7_44]
    rw [hSeq_e, hLoop_e, hBlock_hit]
    rw [hSeq_n]
    generalize e : (FG 412 d [(69, v4), (68, v3), (67, v2), (66, v1), (65, (d 10))]) = a
    rw [show a = (FF 412 (gf a)) from (FF_gf (by subst e; exact FG_len)).symm]
    exact (f7_r15_eq (d := gf a) call k).trans (by subst e; kernel_rfl)
noncomputable def f7_l10 (call : Handle) (k : Nat) : Nat → Value → Value → Value → Value → GH → M (Value × GH)
  | 0, _, _, _, _, _ => none
  | r + 1, x5, x7, x9, x10, H => f7_l10b call k (f7_l10 call k r) x5 x7 x9 x10 H
theorem f7_l10_eq (call : Handle) (k : Nat) : ∀ (r : Nat), f7_l10_P (gLoop (g7 call k [1,1,1,1,1,0,1,0,0]) (hBlock 2 (hSeq (g7 call k [1,1,1,1,1,1]) (hFin Try.prog Try.f7))) r) (f7_l10 call k r) := by
  intro r
  induction r with
  | zero => unfold f7_l10_P; intros; rfl
  | succ r ih => unfold f7_l10_P; intros; exact f7_l10b_eq call k _ _ ih
noncomputable def f7_r8 (call : Handle) (k : Nat) (x5 x7 : Value) (H : GH) : M (Value × GH) :=
  (f7_l10 call k k x5 x7 (.int .i64 0) (.int .i64 0) H)
theorem f7_r8_eq (call : Handle) (k : Nat) : g7 call k [1,1,1,1] (FF 412 d) H (hFin Try.prog Try.f7) = f7_r8 call k (d 5) (d 7) H := by
  unfold f7_r8
  rw [n7_27]
  rw [n7_28]
  rw [s7_13]
  rw [hSeq_n]
  rw [n7_29]
  rw [n7_30]
  rw [n7_31]
  rw [s7_14]
  rw [hSeq_n]
  rw [n7_32]
  rw [n7_33]
  generalize e : (FG 412 d [(10, (.int .i64 0)), (9, (.int .i64 0))]) = a
  rw [show a = (FF 412 (gf a)) from (FF_gf (by subst e; exact FG_len)).symm]
  exact (f7_l10_at (d := gf a) (f7_l10_eq call k k)).trans (by subst e; kernel_rfl)
noncomputable def f7_g5_7 (call : Handle) (k : Nat) (sg_l5 : Sg5) (x51 : Value) (x1 x3 x5 x7 x8 : Value) (H : GH) : M (Value × GH) :=
 onBool (asB x51)
  (onV (oFieldAddr Try.prog 88 x7 0) fun v1 =>
  onV (gLoad Try.prog 85 v1 H) fun v2 =>
  onV (oLen Try.prog 85 v2) fun v3 =>
  onV ((oBin Try.prog .lss 3 v3 (.int .i64 520)).filter closed) fun v4 =>
  onBool (asB v4)
  (onV (oFieldAddr Try.prog 88 x7 0) fun v5 =>
  onV (gLoad Try.prog 85 v5 H) fun v6 =>
  onV (oFieldAddr Try.prog 88 x3 0) fun v7 =>
  onV (gLoad Try.prog 85 v7 H) fun v8 =>
  onVH (gAppend Try.prog 85 85 v6 v8 H) fun v9 H10 =>
  onV (oFieldAddr Try.prog 88 x7 0) fun v11 =>
  onH (gStore Try.prog 85 v11 v9 H10) fun H12 =>
  (f7_r6 call k (sg_l5) x1 x3 x5 x7 x8 H12))
  ((f7_r8 call k x5 x7 H)))
  ((f7_r8 call k x5 x7 H))
theorem f7_g5_7_true (call : Handle) (k : Nat) (ag_l5 : AG) (sg_l5 : Sg5) (h_l5 : f7_l5_P ag_l5 sg_l5) : o7 0 call [1,1,1,0,1,0,0,0,0] 7 (FG 412 d [(51, (.bool true))]) H ((hSeq (g7 call k [1,1,1,0,1,0,0,0,1]) (hSeq (g7 call k [1,1,1,0,1,0,0,1]) (hLoop ag_l5 (hBlock 0 (hSeq (g7 call k [1,1,1,1]) (hFin Try.prog Try.f7)))))) .normal) =
  onV (oFieldAddr Try.prog 88 (d 7) 0) fun v1 =>
  onV (gLoad Try.prog 85 v1 H) fun v2 =>
  onV (oLen Try.prog 85 v2) fun v3 =>
  onV ((oBin Try.prog .lss 3 v3 (.int .i64 520)).filter closed) fun v4 =>
  onBool (asB v4)
  (onV (oFieldAddr Try.prog 88 (d 7) 0) fun v5 =>
  onV (gLoad Try.prog 85 v5 H) fun v6 =>
  onV (oFieldAddr Try.prog 88 (d 3) 0) fun v7 =>
  onV (gLoad Try.prog 85 v7 H) fun v8 =>
  onVH (gAppend Try.prog 85 85 v6 v8 H) fun v9 H10 =>
  onV (oFieldAddr Try.prog 88 (d 7) 0) fun v11 =>
  onH (gStore Try.prog 85 v11 v9 H10) fun H12 =>
  (f7_r6 call k (sg_l5) (d 1) (d 3) (d 5) (d 7) (d 8) H12))
  ((f7_r8 call k (d 5) (d 7) H)) := by
  rw [s7_9]
  refine onV_c fun v1 => ?_
  refine onV_c fun v2 => ?_
  refine onV_c fun v3 => ?_
  refine onV_c fun v4 => ?_
  rw [hSeq_n]
  rw [n7_20]
  refine onBool_cc (by kernel_rfl) ?_ ?_
  · rw [n7_21]
    rw [hSeq_n]
    rw [n7_22]
    rw [n7_23]
    rw [n7_24]
    rw [s7_10]
    refine onV_c fun v5 => ?_
    refine onV_c fun v6 => ?_
    refine onV_c fun v7 => ?_
    refine onV_c fun v8 => ?_
    refine onVH_c fun v9 H10 => ?_
    refine onV_c fun v11 => ?_
    refine onH_c fun H12 => ?_
    rw [hBlock_n]
    rw [hSeq_n]
    generalize e : (FG 412 d [(64, v11), (63, v9), (62, v8), (61, v7), (60, v6), (59, v5), (56, v4), (55, v4), (54, v3), (53, v2), (52, v1), (51, (.bool true))]) = a
    rw [show a = (FF 412 (gf a)) from (FF_gf (by subst e; exact FG_len)).symm]
    exact (f7_r6_eq (d := gf a) call k ag_l5 sg_l5 h_l5).trans (by subst e; kernel_rfl)
  · rw [n7_25]
    rw [hSeq_e, hLoop_e, hBlock_hit]
    rw [hSeq_n]
    generalize e : (FG 412 d [(56, v4), (55, v4), (54, v3), (53, v2), (52, v1), (51, (.bool true))]) = a
    rw [show a = (FF 412 (gf a)) from (FF_gf (by subst e; exact FG_len)).symm]
    exact (f7_r8_eq (d := gf a) call k).trans (by subst e; kernel_rfl)
theorem f7_g5_7_false (call : Handle) (k : Nat) (ag_l5 : AG) (sg_l5 : Sg5) (h_l5 : f7_l5_P ag_l5 sg_l5) : o7 0 call [1,1,1,0,1,0,0,0,0] 7 (FG 412 d [(51, (.bool false))]) H ((hSeq (g7 call k [1,1,1,0,1,0,0,0,1]) (hSeq (g7 call k [1,1,1,0,1,0,0,1]) (hLoop ag_l5 (hBlock 0 (hSeq (g7 call k [1,1,1,1]) (hFin Try.prog Try.f7)))))) .normal) =
  (f7_r8 call k (d 5) (d 7) H) := by
  rw [s7_11]
  rw [hSeq_n]
  rw [n7_20]
  refine (onBool_ff (by kernel_rfl)).trans ?_
  rw [n7_25]
  rw [hSeq_e, hLoop_e, hBlock_hit]
  rw [hSeq_n]
  generalize e : (FG 412 d [(56, (.bool false)), (55, undef), (54, undef), (53, undef), (52, undef), (51, (.bool false))]) = a
  rw [show a = (FF 412 (gf a)) from (FF_gf (by subst e; exact FG_len)).symm]
  exact (f7_r8_eq (d := gf a) call k).trans (by subst e; kernel_rfl)
theorem f7_g5_7_eq (call : Handle) (k : Nat) (ag_l5 : AG) (sg_l5 : Sg5) (h_l5 : f7_l5_P ag_l5 sg_l5) : onGrd true xg (o7 0 call [1,1,1,0,1,0,0,0,0] 7 (FG 412 d [(51, xg)]) H ((hSeq (g7 call k [1,1,1,0,1,0,0,0,1]) (hSeq (g7 call k [1,1,1,0,1,0,0,1]) (hLoop ag_l5 (hBlock 0 (hSeq (g7 call k [1,1,1,1]) (hFin Try.prog Try.f7)))))) .normal)) =
  f7_g5_7 call k sg_l5 xg (d 1) (d 3) (d 5) (d 7) (d 8) H := by
  cases xg with
  | bool b => cases b with
    | true => exact onGrd_b.trans (f7_g5_7_true call k ag_l5 sg_l5 h_l5)
    | false => exact onGrd_b.trans (f7_g5_7_false call k ag_l5 sg_l5 h_l5)
  | _ => kernel_rfl
noncomputable def f7_l5b (call : Handle) (k : Nat) (sg_l5 : Sg5) (x1 x3 x5 x7 x8 : Value) (H : GH) : M (Value × GH) :=
  onV ((oBin Try.prog .rem 89 x1 (.int .u16 60)).filter closed) fun v1 =>
  onV ((oConvert Try.prog 89 3 v1).filter closed) fun v2 =>
  onV ((oBin Try.prog .add 3 (.int .i64 1) v2).filter closed) fun v3 =>
  onV ((oBin Try.prog .lss 3 x8 v3).filter closed) fun v4 =>
  (f7_g5_7 call k (sg_l5) v4 x1 x3 x5 x7 x8 H)
theorem f7_l5b_eq (call : Handle) (k : Nat) (ag_l5 : AG) (sg_l5 : Sg5) (h_l5 : f7_l5_P ag_l5 sg_l5) : g7 call k [1,1,1,0,1,0,0] (FF 412 d) H (hLoop ag_l5 (hBlock 0 (hSeq (g7 call k [1,1,1,1]) (hFin Try.prog Try.f7)))) = f7_l5b call k sg_l5 (d 1) (d 3) (d 5) (d 7) (d 8) H := by
  unfold f7_l5b
  rw [n7_17]
  rw [n7_18]
  rw [n7_19]
  rw [o7_s 0 7, s7_8]
  refine onV_c fun v1 => ?_
  refine onV_c fun v2 => ?_
  refine onV_c fun v3 => ?_
  refine onV_c fun v4 => ?_
  generalize e : (FG 412 d [(51, v4), (50, v4), (49, v3), (48, v2), (47, v1), (46, (d 1)), (45, (d 8))]) = a
  rw [show a = (FG 412 (gf a) [(51, v4)]) from (FG_eq (by subst e; exact FG_len) (FS_cons (by subst e; kernel_rfl) (FS_nil))).symm]
  exact (f7_g5_7_eq (d := gf a) call k ag_l5 sg_l5 h_l5).trans (by subst e; kernel_rfl)
noncomputable def f7_l5 (call : Handle) (k : Nat) : Nat → Value → Value → Value → Value → Value → GH → M (Value × GH)
  | 0, _, _, _, _, _, _ => none
  | r + 1, x1, x3, x5, x7, x8, H => f7_l5b call k (f7_l5 call k r) x1 x3 x5 x7 x8 H
theorem f7_l5_eq (call : Handle) (k : Nat) : ∀ (r : Nat), f7_l5_P (gLoop (g7 call k [1,1,1,0,1,0,0]) (hBlock 0 (hSeq (g7 call k [1,1,1,1]) (hFin Try.prog Try.f7))) r) (f7_l5 call k r) := by
  intro r
  induction r with
  | zero => unfold f7_l5_P; intros; rfl
  | succ r ih => unfold f7_l5_P; intros; exact f7_l5b_eq call k _ _ ih
noncomputable def f7_g1_5 (call : Handle) (k : Nat) (x35 : Value) (x1 x3 x5 : Value) (H : GH) : M (Value × GH) :=
 onBool (asB x35)
  (onCall 0 call (.func (.func 33) #[] #[]) [] H fun v1 H2 =>
  some [(v1, H2)])
  (onV (oFieldAddr Try.prog 88 x3 1) fun v1 =>
  onV (gLoad Try.prog 86 v1 H) fun v2 =>
  onV (oLen Try.prog 86 v2) fun v3 =>
  onV ((oBin Try.prog .gtr 3 v3 (.int .i64 12)).filter closed) fun v4 =>
  onBool (asB v4)
  (onCall 0 call (.func (.func 33) #[] #[]) [] H fun v5 H6 =>
  some [(v5, H6)])
  (onV (oFieldAddr Try.prog 88 x3 1) fun v7 =>
  onV (gLoad Try.prog 86 v7 H) fun v8 =>
  onV (oBuild Try.prog 88 [(1, v8)]) fun v9 =>
  onH (gStore Try.prog 88 (.pointer (some ⟨H.n, 0, none⟩)) v9 (GH.push H (.row [(.slice none 0 0), (.slice none 0 0)] 88 false))) fun H10 =>
  (f7_l5 call k k x1 x3 x5 (.pointer (some ⟨H.n, 0, none⟩)) (.int .i64 0) H10)))
theorem f7_g1_5_true (call : Handle) (k : Nat) : o7 0 call [1,0,0] 5 (FG 412 d [(35, (.bool true))]) H ((hSeq (g7 call k [1,0,1]) (hSeq (g7 call k [1,1]) (hFin Try.prog Try.f7))) .normal) =
  onCall 0 call (.func (.func 33) #[] #[]) [] H fun v1 H2 =>
  some [(v1, H2)] := by
  rw [s7_2]
  rw [hSeq_n]
  rw [n7_5]
  refine (onBool_tt (by kernel_rfl)).trans ?_
  rw [n7_6]
  rw [n7_7]
  rw [s7_3]
  refine onCall_c fun v1 H2 => ?_
  rw [hSeq_n]
  rw [n7_8]
  rw [hSeq_r]
  kernel_rfl
theorem f7_g1_5_false (call : Handle) (k : Nat) : o7 0 call [1,0,0] 5 (FG 412 d [(35, (.bool false))]) H ((hSeq (g7 call k [1,0,1]) (hSeq (g7 call k [1,1]) (hFin Try.prog Try.f7))) .normal) =
  onV (oFieldAddr Try.prog 88 (d 3) 1) fun v1 =>
  onV (gLoad Try.prog 86 v1 H) fun v2 =>
  onV (oLen Try.prog 86 v2) fun v3 =>
  onV ((oBin Try.prog .gtr 3 v3 (.int .i64 12)).filter closed) fun v4 =>
  onBool (asB v4)
  (onCall 0 call (.func (.func 33) #[] #[]) [] H fun v5 H6 =>
  some [(v5, H6)])
  (onV (oFieldAddr Try.prog 88 (d 3) 1) fun v7 =>
  onV (gLoad Try.prog 86 v7 H) fun v8 =>
  onV (oBuild Try.prog 88 [(1, v8)]) fun v9 =>
  onH (gStore Try.prog 88 (.pointer (some ⟨H.n, 0, none⟩)) v9 (GH.push H (.row [(.slice none 0 0), (.slice none 0 0)] 88 false))) fun H10 =>
  (f7_l5 call k k (d 1) (d 3) (d 5) (.pointer (some ⟨H.n, 0, none⟩)) (.int .i64 0) H10)) := by
  rw [s7_4]
  refine onV_c fun v1 => ?_
  refine onV_c fun v2 => ?_
  refine onV_c fun v3 => ?_
  refine onV_c fun v4 => ?_
  rw [hSeq_n]
  rw [n7_5]
  refine onBool_cc (by kernel_rfl) ?_ ?_
  · rw [n7_6]
    rw [n7_7]
    rw [s7_5]
    refine onCall_c fun v5 H6 => ?_
    rw [hSeq_n]
    rw [n7_8]
    rw [hSeq_r]
    kernel_rfl
  · rw [n7_9]
    rw [hSeq_n]
    rw [n7_10]
    rw [n7_11]
    rw [s7_6]
    refine onV_c fun v7 => ?_
    refine onV_c fun v8 => ?_
    refine onV_c fun v9 => ?_
    refine onH_c fun H10 => ?_
    rw [hSeq_n]
    rw [n7_12]
    rw [n7_13]
    rw [n7_14]
    rw [s7_7]
    rw [hSeq_n]
    rw [n7_15]
    rw [n7_16]
    generalize e : (FG 412 d [(8, (.int .i64 0)), (7, (.pointer (some ⟨H.n, 0, none⟩))), (44, v9), (43, v8), (42, v7), (40, v4), (39, v4), (38, v3), (37, v2), (36, v1), (35, (.bool false))]) = a
    rw [show a = (FF 412 (gf a)) from (FF_gf (by subst e; exact FG_len)).symm]
    exact (f7_l5_at (d := gf a) (f7_l5_eq call k k)).trans (by subst e; kernel_rfl)
theorem f7_g1_5_eq (call : Handle) (k : Nat) : onGrd true xg (o7 0 call [1,0,0] 5 (FG 412 d [(35, xg)]) H ((hSeq (g7 call k [1,0,1]) (hSeq (g7 call k [1,1]) (hFin Try.prog Try.f7))) .normal)) =
  f7_g1_5 call k xg (d 1) (d 3) (d 5) H := by
  cases xg with
  | bool b => cases b with
    | true => exact onGrd_b.trans (f7_g1_5_true call k)
    | false => exact onGrd_b.trans (f7_g1_5_false call k)
  | _ => kernel_rfl
noncomputable def f7_sh (call : Handle) (k : Nat) (p0 p1 p2 : Value) (H : GH) : M (Value × GH) :=
  onV (gLoad Try.prog 85 (.pointer (some ⟨H.n, 0, none⟩)) (GH.push (GH.push H (.row (Value.cells p0).toList 88 false)) (.row (Value.cells p2).toList 91 false))) fun v1 =>
  onV (oLen Try.prog 85 v1) fun v2 =>
  onV ((oBin Try.prog .gtr 3 v2 (.int .i64 12)).filter closed) fun v3 =>
  (f7_g1_5 call k v3 p1 (.pointer (some ⟨H.n, 0, none⟩)) (.pointer (some ⟨(GH.push H (.row (Value.cells p0).toList 88 false)).n, 0, none⟩)) (GH.push (GH.push H (.row (Value.cells p0).toList 88 false)) (.row (Value.cells p2).toList 91 false)))
theorem f7_run (call : Handle) (k : Nat) (p0 p1 p2 : Value) (H : GH) : g7 call k [] (FG 412 (fun _ => undef) [(2, p2), (1, p1), (0, p0)]) H (hFin Try.prog Try.f7) = f7_sh call k p0 p1 p2 H := by
  unfold f7_sh
  rw [n7_0]
  rw [n7_1]
  rw [s7_0]
  rw [hSeq_n]
  rw [n7_2]
  rw [n7_3]
  rw [n7_4]
  rw [o7_s 0 5, s7_1]
  refine onV_c fun v1 => ?_
  refine onV_c fun v2 => ?_
  refine onV_c fun v3 => ?_
  generalize e : (FG 412 (fun _ => undef) [(35, v3), (34, v3), (33, v2), (32, v1), (31, (.pointer (some ⟨H.n, 0, none⟩))), (6, (.bool false)), (5, (.pointer (some ⟨(GH.push H (.row (Value.cells p0).toList 88 false)).n, 0, none⟩))), (3, (.pointer (some ⟨H.n, 0, none⟩))), (2, p2), (1, p1), (0, p0)]) = a
  rw [show a = (FG 412 (gf a) [(35, v3)]) from (FG_eq (by subst e; exact FG_len) (FS_cons (by subst e; kernel_rfl) (FS_nil))).symm]
  exact (f7_g1_5_eq (d := gf a) call k).trans (by subst e; kernel_rfl)
theorem f7_eq (call : Handle) (k : Nat) (p0 p1 p2 : Value) (H : GH) : gFunc Try.prog call k Try.f7 [p0, p1, p2] H = f7_sh call k p0 p1 p2 H :=
  Eq.trans (by kernel_rfl) (f7_run call k p0 p1 p2 H)
end
end Go.Proofs.Ythicilkmjamefaa
