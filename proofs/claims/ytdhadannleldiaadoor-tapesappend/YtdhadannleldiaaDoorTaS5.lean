/- PRINTED by sh.py: shallow forms of functions of the program, each proved equal to what the ghost machine makes of its code. -/
import Derived.Test.YtdhadannleldiaaDoorGkTop
import Derived.Test.YtdhadannleldiaaDoorProg
namespace Go.Proofs.YtdhadannleldiaaDoor
open Go.Gh
set_option linter.unusedVariables false
set_option linter.unusedSimpArgs false
set_option maxRecDepth 100000
noncomputable def g23 {β : Type} (call : Handle) (k : Nat) (p : List Nat) : GA → GH → Kont β → M β := gCode Tryd.prog call k (fAt Tryd.f23 p)
noncomputable def o23 {β : Type} (d : Nat) (call : Handle) (p : List Nat) (i : Nat) : GA → GH → (GA → GH → M β) → M β := gOps Tryd.prog d call (opsAt (fAt Tryd.f23 p)) i ((opsAt (fAt Tryd.f23 p)).drop i)
noncomputable def t23 {β : Type} (d : Nat) (call : Handle) (p : List Nat) (i n : Nat) : GA → GH → (GA → GH → M β) → M β := gOps Tryd.prog d call (opsAt (fAt Tryd.f23 p)) i (((opsAt (fAt Tryd.f23 p)).drop i).take n)
theorem o23_s {β : Type} {d : Nat} {call : Handle} {p : List Nat} {a : GA} {H : GH} {K : GA → GH → M β} (i n : Nat) : o23 d call p i a H K = t23 d call p i n a H fun a H => o23 d call p (i + n) a H K := gOps_split i n
section
variable {β : Type} {call : Handle} {k : Nat} {a : GA} {K : Kont β} {K' : GA → GH → M β}
variable {d : Nat → Value} {xg : Value}
variable {p0 : Value}
variable {v1 v2 v3 v4 v5 v6 v7 v8 v9 v10 v11 v12 v14 : Value}
variable {H H1 H2 H3 H4 H5 H7 H8 H10 H13 : GH}
theorem n23_0 : g23 call k [] a H K = g23 call k [0] a H (hSeq (g23 call k [1]) K) := at_seq (by kernel_rfl)
theorem n23_1 : g23 call k [0] a H K = o23 0 call [0] 0 a H (K .normal) := at_region (by kernel_rfl)
theorem n23_2 : g23 call k [1] a H K = g23 call k [1,0] a H (hSeq (g23 call k [1,1]) K) := at_seq (by kernel_rfl)
theorem n23_3 : g23 call k [1,0] a H K = g23 call k [1,0,0] a H (hSeq (g23 call k [1,0,1]) K) := at_seq (by kernel_rfl)
theorem n23_4 : g23 call k [1,0,0] a H K = o23 1 call [1,0,0] 0 a H (K .normal) := at_region (by kernel_rfl)
theorem n23_5 : g23 call k [1,0,1] a H K = onBool (asB (GA.eval a (.tmp 21))) (g23 call k [1,0,1,0] a H K) (g23 call k [1,0,1,1] a H K) := at_cond (by kernel_rfl)
theorem n23_6 : g23 call k [1,0,1,0] a H K = g23 call k [1,0,1,0,0] a H (hSeq (g23 call k [1,0,1,0,1]) K) := at_seq (by kernel_rfl)
theorem n23_7 : g23 call k [1,0,1,0,0] a H K = o23 0 call [1,0,1,0,0] 0 a H (K .normal) := at_region (by kernel_rfl)
theorem n23_8 : g23 call k [1,0,1,0,1] a H K = g23 call k [1,0,1,0,1,0] a H (hSeq (g23 call k [1,0,1,0,1,1]) K) := at_seq (by kernel_rfl)
theorem n23_9 : g23 call k [1,0,1,0,1,0] a H K = o23 0 call [1,0,1,0,1,0] 0 a H (K .normal) := at_region (by kernel_rfl)
theorem n23_10 : g23 call k [1,0,1,0,1,1] a H K = K .ret a H := at_ret (by kernel_rfl)
theorem n23_11 : g23 call k [1,0,1,1] a H K = K .normal a H := at_skip (by kernel_rfl)
theorem n23_12 : g23 call k [1,1] a H K = g23 call k [1,1,0] a H (hSeq (g23 call k [1,1,1]) K) := at_seq (by kernel_rfl)
theorem n23_13 : g23 call k [1,1,0] a H K = o23 0 call [1,1,0] 0 a H (K .normal) := at_region (by kernel_rfl)
theorem n23_14 : g23 call k [1,1,1] a H K = g23 call k [1,1,1,0] a H (hSeq (g23 call k [1,1,1,1]) K) := at_seq (by kernel_rfl)
theorem n23_15 : g23 call k [1,1,1,0] a H K = o23 0 call [1,1,1,0] 0 a H (K .normal) := at_region (by kernel_rfl)
theorem n23_16 : g23 call k [1,1,1,1] a H K = g23 call k [1,1,1,1,0] a H (hSeq (g23 call k [1,1,1,1,1]) K) := at_seq (by kernel_rfl)
theorem n23_17 : g23 call k [1,1,1,1,0] a H K = g23 call k [1,1,1,1,0,0] a H (hBlock 0 K) := at_block (by kernel_rfl)
theorem n23_18 : g23 call k [1,1,1,1,0,0] a H K = gLoop (g23 call k [1,1,1,1,0,0,0]) K k a H := at_loop (by kernel_rfl)
theorem n23_19 : g23 call k [1,1,1,1,0,0,0] a H K = g23 call k [1,1,1,1,0,0,0,0] a H (hSeq (g23 call k [1,1,1,1,0,0,0,1]) K) := at_seq (by kernel_rfl)
theorem n23_20 : g23 call k [1,1,1,1,0,0,0,0] a H K = g23 call k [1,1,1,1,0,0,0,0,0] a H (hSeq (g23 call k [1,1,1,1,0,0,0,0,1]) K) := at_seq (by kernel_rfl)
theorem n23_21 : g23 call k [1,1,1,1,0,0,0,0,0] a H K = o23 0 call [1,1,1,1,0,0,0,0,0] 0 a H (K .normal) := at_region (by kernel_rfl)
theorem n23_22 : g23 call k [1,1,1,1,0,0,0,0,1] a H K = onBool (asB (GA.eval a (.tmp 29))) (g23 call k [1,1,1,1,0,0,0,0,1,0] a H K) (g23 call k [1,1,1,1,0,0,0,0,1,1] a H K) := at_cond (by kernel_rfl)
theorem n23_23 : g23 call k [1,1,1,1,0,0,0,0,1,0] a H K = K .normal a H := at_skip (by kernel_rfl)
theorem n23_24 : g23 call k [1,1,1,1,0,0,0,1] a H K = g23 call k [1,1,1,1,0,0,0,1,0] a H (hBlock 1 K) := at_block (by kernel_rfl)
theorem n23_25 : g23 call k [1,1,1,1,0,0,0,1,0] a H K = g23 call k [1,1,1,1,0,0,0,1,0,0] a H (hSeq (g23 call k [1,1,1,1,0,0,0,1,0,1]) K) := at_seq (by kernel_rfl)
theorem n23_26 : g23 call k [1,1,1,1,0,0,0,1,0,0] a H K = o23 0 call [1,1,1,1,0,0,0,1,0,0] 0 a H (K .normal) := at_region (by kernel_rfl)
theorem n23_27 : g23 call k [1,1,1,1,0,0,0,1,0,1] a H K = g23 call k [1,1,1,1,0,0,0,1,0,1,0] a H (hSeq (g23 call k [1,1,1,1,0,0,0,1,0,1,1]) K) := at_seq (by kernel_rfl)
theorem n23_28 : g23 call k [1,1,1,1,0,0,0,0,1,1] a H K = K (.exit 0) a H := at_exit (by kernel_rfl)
theorem n23_29 : g23 call k [1,1,1,1,0,0,0,1,0,1,0] a H K = o23 0 call [1,1,1,1,0,0,0,1,0,1,0] 0 a H (K .normal) := at_region (by kernel_rfl)
theorem n23_30 : g23 call k [1,1,1,1,0,0,0,1,0,1,1] a H K = g23 call k [1,1,1,1,0,0,0,1,0,1,1,0] a H (hSeq (g23 call k [1,1,1,1,0,0,0,1,0,1,1,1]) K) := at_seq (by kernel_rfl)
theorem n23_31 : g23 call k [1,1,1,1,0,0,0,1,0,1,1,0] a H K = o23 0 call [1,1,1,1,0,0,0,1,0,1,1,0] 0 a H (K .normal) := at_region (by kernel_rfl)
theorem n23_32 : g23 call k [1,1,1,1,0,0,0,1,0,1,1,1] a H K = g23 call k [1,1,1,1,0,0,0,1,0,1,1,1,0] a H (hSeq (g23 call k [1,1,1,1,0,0,0,1,0,1,1,1,1]) K) := at_seq (by kernel_rfl)
theorem n23_33 : g23 call k [1,1,1,1,0,0,0,1,0,1,1,1,0] a H K = g23 call k [1,1,1,1,0,0,0,1,0,1,1,1,0,0] a H (hBlock 2 K) := at_block (by kernel_rfl)
theorem n23_34 : g23 call k [1,1,1,1,0,0,0,1,0,1,1,1,0,0] a H K = g23 call k [1,1,1,1,0,0,0,1,0,1,1,1,0,0,0] a H (hSeq (g23 call k [1,1,1,1,0,0,0,1,0,1,1,1,0,0,1]) K) := at_seq (by kernel_rfl)
theorem n23_35 : g23 call k [1,1,1,1,1] a H K = g23 call k [1,1,1,1,1,0] a H (hSeq (g23 call k [1,1,1,1,1,1]) K) := at_seq (by kernel_rfl)
theorem n23_36 : g23 call k [1,1,1,1,1,0] a H K = o23 0 call [1,1,1,1,1,0] 0 a H (K .normal) := at_region (by kernel_rfl)
theorem n23_37 : g23 call k [1,1,1,1,1,1] a H K = g23 call k [1,1,1,1,1,1,0] a H (hSeq (g23 call k [1,1,1,1,1,1,1]) K) := at_seq (by kernel_rfl)
theorem n23_38 : g23 call k [1,1,1,1,1,1,0] a H K = o23 0 call [1,1,1,1,1,1,0] 0 a H (K .normal) := at_region (by kernel_rfl)
theorem n23_39 : g23 call k [1,1,1,1,1,1,1] a H K = K .ret a H := at_ret (by kernel_rfl)
theorem n23_40 : g23 call k [1,1,1,1,0,0,0,1,0,1,1,1,0,0,0] a H K = o23 0 call [1,1,1,1,0,0,0,1,0,1,1,1,0,0,0] 0 a H (K .normal) := at_region (by kernel_rfl)
theorem n23_41 : g23 call k [1,1,1,1,0,0,0,1,0,1,1,1,0,0,1] a H K = onBool (asB (GA.eval a (.tmp 47))) (g23 call k [1,1,1,1,0,0,0,1,0,1,1,1,0,0,1,0] a H K) (g23 call k [1,1,1,1,0,0,0,1,0,1,1,1,0,0,1,1] a H K) := at_cond (by kernel_rfl)
theorem n23_42 : g23 call k [1,1,1,1,0,0,0,1,0,1,1,1,0,0,1,0] a H K = g23 call k [1,1,1,1,0,0,0,1,0,1,1,1,0,0,1,0,0] a H (hSeq (g23 call k [1,1,1,1,0,0,0,1,0,1,1,1,0,0,1,0,1]) K) := at_seq (by kernel_rfl)
theorem n23_43 : g23 call k [1,1,1,1,0,0,0,1,0,1,1,1,0,0,1,0,0] a H K = o23 0 call [1,1,1,1,0,0,0,1,0,1,1,1,0,0,1,0,0] 0 a H (K .normal) := at_region (by kernel_rfl)
theorem n23_44 : g23 call k [1,1,1,1,0,0,0,1,0,1,1,1,0,0,1,0,1] a H K = g23 call k [1,1,1,1,0,0,0,1,0,1,1,1,0,0,1,0,1,0] a H (hSeq (g23 call k [1,1,1,1,0,0,0,1,0,1,1,1,0,0,1,0,1,1]) K) := at_seq (by kernel_rfl)
theorem n23_45 : g23 call k [1,1,1,1,0,0,0,1,0,1,1,1,0,0,1,0,1,0] a H K = o23 0 call [1,1,1,1,0,0,0,1,0,1,1,1,0,0,1,0,1,0] 0 a H (K .normal) := at_region (by kernel_rfl)
theorem n23_46 : g23 call k [1,1,1,1,0,0,0,1,0,1,1,1,0,0,1,0,1,1] a H K = K .ret a H := at_ret (by kernel_rfl)
theorem n23_47 : g23 call k [1,1,1,1,0,0,0,1,0,1,1,1,0,0,1,1] a H K = g23 call k [1,1,1,1,0,0,0,1,0,1,1,1,0,0,1,1,0] a H (hSeq (g23 call k [1,1,1,1,0,0,0,1,0,1,1,1,0,0,1,1,1]) K) := at_seq (by kernel_rfl)
theorem n23_48 : g23 call k [1,1,1,1,0,0,0,1,0,1,1,1,0,0,1,1,0] a H K = o23 2 call [1,1,1,1,0,0,0,1,0,1,1,1,0,0,1,1,0] 0 a H (K .normal) := at_region (by kernel_rfl)
theorem n23_49 : g23 call k [1,1,1,1,0,0,0,1,0,1,1,1,0,0,1,1,1] a H K = onBool (asB (GA.eval a (.tmp 60))) (g23 call k [1,1,1,1,0,0,0,1,0,1,1,1,0,0,1,1,1,0] a H K) (g23 call k [1,1,1,1,0,0,0,1,0,1,1,1,0,0,1,1,1,1] a H K) := at_cond (by kernel_rfl)
theorem n23_50 : g23 call k [1,1,1,1,0,0,0,1,0,1,1,1,0,0,1,1,1,0] a H K = g23 call k [1,1,1,1,0,0,0,1,0,1,1,1,0,0,1,1,1,0,0] a H (hSeq (g23 call k [1,1,1,1,0,0,0,1,0,1,1,1,0,0,1,1,1,0,1]) K) := at_seq (by kernel_rfl)
theorem n23_51 : g23 call k [1,1,1,1,0,0,0,1,0,1,1,1,0,0,1,1,1,0,0] a H K = o23 0 call [1,1,1,1,0,0,0,1,0,1,1,1,0,0,1,1,1,0,0] 0 a H (K .normal) := at_region (by kernel_rfl)
theorem n23_52 : g23 call k [1,1,1,1,0,0,0,1,0,1,1,1,0,0,1,1,1,0,1] a H K = g23 call k [1,1,1,1,0,0,0,1,0,1,1,1,0,0,1,1,1,0,1,0] a H (hSeq (g23 call k [1,1,1,1,0,0,0,1,0,1,1,1,0,0,1,1,1,0,1,1]) K) := at_seq (by kernel_rfl)
theorem n23_53 : g23 call k [1,1,1,1,0,0,0,1,0,1,1,1,0,0,1,1,1,1] a H K = K .normal a H := at_skip (by kernel_rfl)
theorem n23_54 : g23 call k [1,1,1,1,0,0,0,1,0,1,1,1,1] a H K = g23 call k [1,1,1,1,0,0,0,1,0,1,1,1,1,0] a H (hSeq (g23 call k [1,1,1,1,0,0,0,1,0,1,1,1,1,1]) K) := at_seq (by kernel_rfl)
theorem n23_55 : g23 call k [1,1,1,1,0,0,0,1,0,1,1,1,1,0] a H K = g23 call k [1,1,1,1,0,0,0,1,0,1,1,1,1,0,0] a H (hSeq (g23 call k [1,1,1,1,0,0,0,1,0,1,1,1,1,0,1]) K) := at_seq (by kernel_rfl)
theorem n23_56 : g23 call k [1,1,1,1,0,0,0,1,0,1,1,1,1,0,0] a H K = o23 0 call [1,1,1,1,0,0,0,1,0,1,1,1,1,0,0] 0 a H (K .normal) := at_region (by kernel_rfl)
theorem n23_57 : g23 call k [1,1,1,1,0,0,0,1,0,1,1,1,1,0,1] a H K = onBool (asB (GA.eval a (.tmp 77))) (g23 call k [1,1,1,1,0,0,0,1,0,1,1,1,1,0,1,0] a H K) (g23 call k [1,1,1,1,0,0,0,1,0,1,1,1,1,0,1,1] a H K) := at_cond (by kernel_rfl)
theorem n23_58 : g23 call k [1,1,1,1,0,0,0,1,0,1,1,1,1,0,1,0] a H K = g23 call k [1,1,1,1,0,0,0,1,0,1,1,1,1,0,1,0,0] a H (hSeq (g23 call k [1,1,1,1,0,0,0,1,0,1,1,1,1,0,1,0,1]) K) := at_seq (by kernel_rfl)
theorem n23_59 : g23 call k [1,1,1,1,0,0,0,1,0,1,1,1,1,0,1,0,0] a H K = g23 call k [1,1,1,1,0,0,0,1,0,1,1,1,1,0,1,0,0,0] a H (hSeq (g23 call k [1,1,1,1,0,0,0,1,0,1,1,1,1,0,1,0,0,1]) K) := at_seq (by kernel_rfl)
theorem n23_60 : g23 call k [1,1,1,1,0,0,0,1,0,1,1,1,1,0,1,1] a H K = K .normal a H := at_skip (by kernel_rfl)
theorem n23_61 : g23 call k [1,1,1,1,0,0,0,1,0,1,1,1,1,1] a H K = g23 call k [1,1,1,1,0,0,0,1,0,1,1,1,1,1,0] a H (hSeq (g23 call k [1,1,1,1,0,0,0,1,0,1,1,1,1,1,1]) K) := at_seq (by kernel_rfl)
theorem n23_62 : g23 call k [1,1,1,1,0,0,0,1,0,1,1,1,1,1,0] a H K = o23 0 call [1,1,1,1,0,0,0,1,0,1,1,1,1,1,0] 0 a H (K .normal) := at_region (by kernel_rfl)
theorem n23_63 : g23 call k [1,1,1,1,0,0,0,1,0,1,1,1,1,1,1] a H K = g23 call k [1,1,1,1,0,0,0,1,0,1,1,1,1,1,1,0] a H (hSeq (g23 call k [1,1,1,1,0,0,0,1,0,1,1,1,1,1,1,1]) K) := at_seq (by kernel_rfl)
theorem n23_64 : g23 call k [1,1,1,1,0,0,0,1,0,1,1,1,1,1,1,0] a H K = g23 call k [1,1,1,1,0,0,0,1,0,1,1,1,1,1,1,0,0] a H (hSeq (g23 call k [1,1,1,1,0,0,0,1,0,1,1,1,1,1,1,0,1]) K) := at_seq (by kernel_rfl)
theorem n23_65 : g23 call k [1,1,1,1,0,0,0,1,0,1,1,1,0,0,1,1,1,0,1,0] a H K = o23 0 call [1,1,1,1,0,0,0,1,0,1,1,1,0,0,1,1,1,0,1,0] 0 a H (K .normal) := at_region (by kernel_rfl)
theorem n23_66 : g23 call k [1,1,1,1,0,0,0,1,0,1,1,1,0,0,1,1,1,0,1,1] a H K = K .ret a H := at_ret (by kernel_rfl)
theorem n23_67 : g23 call k [1,1,1,1,0,0,0,1,0,1,1,1,1,0,1,0,0,0] a H K = o23 0 call [1,1,1,1,0,0,0,1,0,1,1,1,1,0,1,0,0,0] 0 a H (K .normal) := at_region (by kernel_rfl)
theorem n23_68 : g23 call k [1,1,1,1,0,0,0,1,0,1,1,1,1,0,1,0,0,1] a H K = g23 call k [1,1,1,1,0,0,0,1,0,1,1,1,1,0,1,0,0,1,0] a H (hSeq (g23 call k [1,1,1,1,0,0,0,1,0,1,1,1,1,0,1,0,0,1,1]) K) := at_seq (by kernel_rfl)
theorem n23_69 : g23 call k [1,1,1,1,0,0,0,1,0,1,1,1,1,0,1,0,0,1,0] a H K = o23 0 call [1,1,1,1,0,0,0,1,0,1,1,1,1,0,1,0,0,1,0] 0 a H (K .normal) := at_region (by kernel_rfl)
theorem n23_70 : g23 call k [1,1,1,1,0,0,0,1,0,1,1,1,1,0,1,0,0,1,1] a H K = onBool (asB (GA.eval a (.tmp 84))) (g23 call k [1,1,1,1,0,0,0,1,0,1,1,1,1,0,1,0,0,1,1,0] a H K) (g23 call k [1,1,1,1,0,0,0,1,0,1,1,1,1,0,1,0,0,1,1,1] a H K) := at_cond (by kernel_rfl)
theorem n23_71 : g23 call k [1,1,1,1,0,0,0,1,0,1,1,1,1,0,1,0,0,1,1,0] a H K = o23 0 call [1,1,1,1,0,0,0,1,0,1,1,1,1,0,1,0,0,1,1,0] 0 a H (K .normal) := at_region (by kernel_rfl)
theorem n23_72 : g23 call k [1,1,1,1,0,0,0,1,0,1,1,1,1,0,1,0,1] a H K = g23 call k [1,1,1,1,0,0,0,1,0,1,1,1,1,0,1,0,1,0] a H (hSeq (g23 call k [1,1,1,1,0,0,0,1,0,1,1,1,1,0,1,0,1,1]) K) := at_seq (by kernel_rfl)
theorem n23_73 : g23 call k [1,1,1,1,0,0,0,1,0,1,1,1,1,0,1,0,1,0] a H K = o23 0 call [1,1,1,1,0,0,0,1,0,1,1,1,1,0,1,0,1,0] 0 a H (K .normal) := at_region (by kernel_rfl)
theorem n23_74 : g23 call k [1,1,1,1,0,0,0,1,0,1,1,1,1,0,1,0,1,1] a H K = K .ret a H := at_ret (by kernel_rfl)
theorem n23_75 : g23 call k [1,1,1,1,0,0,0,1,0,1,1,1,1,0,1,0,0,1,1,1] a H K = K .normal a H := at_skip (by kernel_rfl)
theorem n23_76 : g23 call k [1,1,1,1,0,0,0,1,0,1,1,1,1,1,1,0,0] a H K = o23 0 call [1,1,1,1,0,0,0,1,0,1,1,1,1,1,1,0,0] 0 a H (K .normal) := at_region (by kernel_rfl)
theorem n23_77 : g23 call k [1,1,1,1,0,0,0,1,0,1,1,1,1,1,1,0,1] a H K = g23 call k [1,1,1,1,0,0,0,1,0,1,1,1,1,1,1,0,1,0] a H (hBlock 3 K) := at_block (by kernel_rfl)
theorem n23_78 : g23 call k [1,1,1,1,0,0,0,1,0,1,1,1,1,1,1,0,1,0] a H K = onFunc (GA.eval a (.tmp 89)) fun g => bindM (call g [.func (.yield H.n) #[] #[]] (GH.push H (.loop .ready none a [90] (fAt Tryd.f23 [1,1,1,1,0,0,0,1,0,1,1,1,1,1,1,0,1,0,0]) (fAt Tryd.f23 [1,1,1,1,0,0,0,1,0,1,1,1,1,1,1,0,1,0,1])))) fun z => onEnd H.n z.2 (fun H => K .normal a H) (fun H => K .ret a H) (fun id H => K (.exit id) a H) := at_rangeFunc (ps := #[90]) (by kernel_rfl)
theorem n23_79 : g23 call k [1,1,1,1,0,0,0,1,0,1,1,1,1,1,1,0,1,0,0] a H K = o23 0 call [1,1,1,1,0,0,0,1,0,1,1,1,1,1,1,0,1,0,0] 0 a H (K .normal) := at_region (by kernel_rfl)
theorem n23_80 : g23 call k [1,1,1,1,0,0,0,1,0,1,1,1,1,1,1,0,1,0,1] a H K = g23 call k [1,1,1,1,0,0,0,1,0,1,1,1,1,1,1,0,1,0,1,0] a H (hBlock 4 K) := at_block (by kernel_rfl)
theorem n23_81 : g23 call k [1,1,1,1,0,0,0,1,0,1,1,1,1,1,1,0,1,0,1,0] a H K = g23 call k [1,1,1,1,0,0,0,1,0,1,1,1,1,1,1,0,1,0,1,0,0] a H (hSeq (g23 call k [1,1,1,1,0,0,0,1,0,1,1,1,1,1,1,0,1,0,1,0,1]) K) := at_seq (by kernel_rfl)
theorem n23_82 : g23 call k [1,1,1,1,0,0,0,1,0,1,1,1,1,1,1,0,1,0,1,0,0] a H K = o23 0 call [1,1,1,1,0,0,0,1,0,1,1,1,1,1,1,0,1,0,1,0,0] 0 a H (K .normal) := at_region (by kernel_rfl)
theorem n23_83 : g23 call k [1,1,1,1,0,0,0,1,0,1,1,1,1,1,1,0,1,0,1,0,1] a H K = g23 call k [1,1,1,1,0,0,0,1,0,1,1,1,1,1,1,0,1,0,1,0,1,0] a H (hSeq (g23 call k [1,1,1,1,0,0,0,1,0,1,1,1,1,1,1,0,1,0,1,0,1,1]) K) := at_seq (by kernel_rfl)
theorem n23_84 : g23 call k [1,1,1,1,0,0,0,1,0,1,1,1,1,1,1,0,1,0,1,0,1,0] a H K = g23 call k [1,1,1,1,0,0,0,1,0,1,1,1,1,1,1,0,1,0,1,0,1,0,0] a H (hSeq (g23 call k [1,1,1,1,0,0,0,1,0,1,1,1,1,1,1,0,1,0,1,0,1,0,1]) K) := at_seq (by kernel_rfl)
theorem n23_85 : g23 call k [1,1,1,1,0,0,0,1,0,1,1,1,1,1,1,1] a H K = g23 call k [1,1,1,1,0,0,0,1,0,1,1,1,1,1,1,1,0] a H (hSeq (g23 call k [1,1,1,1,0,0,0,1,0,1,1,1,1,1,1,1,1]) K) := at_seq (by kernel_rfl)
theorem n23_86 : g23 call k [1,1,1,1,0,0,0,1,0,1,1,1,1,1,1,1,0] a H K = g23 call k [1,1,1,1,0,0,0,1,0,1,1,1,1,1,1,1,0,0] a H (hSeq (g23 call k [1,1,1,1,0,0,0,1,0,1,1,1,1,1,1,1,0,1]) K) := at_seq (by kernel_rfl)
theorem n23_87 : g23 call k [1,1,1,1,0,0,0,1,0,1,1,1,1,1,1,1,0,0] a H K = o23 0 call [1,1,1,1,0,0,0,1,0,1,1,1,1,1,1,1,0,0] 0 a H (K .normal) := at_region (by kernel_rfl)
theorem n23_88 : g23 call k [1,1,1,1,0,0,0,1,0,1,1,1,1,1,1,1,0,1] a H K = onBool (asB (GA.eval a (.tmp 114))) (g23 call k [1,1,1,1,0,0,0,1,0,1,1,1,1,1,1,1,0,1,0] a H K) (g23 call k [1,1,1,1,0,0,0,1,0,1,1,1,1,1,1,1,0,1,1] a H K) := at_cond (by kernel_rfl)
theorem n23_89 : g23 call k [1,1,1,1,0,0,0,1,0,1,1,1,1,1,1,1,0,1,0] a H K = g23 call k [1,1,1,1,0,0,0,1,0,1,1,1,1,1,1,1,0,1,0,0] a H (hSeq (g23 call k [1,1,1,1,0,0,0,1,0,1,1,1,1,1,1,1,0,1,0,1]) K) := at_seq (by kernel_rfl)
theorem n23_90 : g23 call k [1,1,1,1,0,0,0,1,0,1,1,1,1,1,1,1,0,1,0,0] a H K = o23 0 call [1,1,1,1,0,0,0,1,0,1,1,1,1,1,1,1,0,1,0,0] 0 a H (K .normal) := at_region (by kernel_rfl)
theorem n23_91 : g23 call k [1,1,1,1,0,0,0,1,0,1,1,1,1,1,1,1,0,1,0,1] a H K = g23 call k [1,1,1,1,0,0,0,1,0,1,1,1,1,1,1,1,0,1,0,1,0] a H (hSeq (g23 call k [1,1,1,1,0,0,0,1,0,1,1,1,1,1,1,1,0,1,0,1,1]) K) := at_seq (by kernel_rfl)
theorem n23_92 : g23 call k [1,1,1,1,0,0,0,1,0,1,1,1,1,1,1,1,0,1,0,1,0] a H K = o23 0 call [1,1,1,1,0,0,0,1,0,1,1,1,1,1,1,1,0,1,0,1,0] 0 a H (K .normal) := at_region (by kernel_rfl)
theorem n23_93 : g23 call k [1,1,1,1,0,0,0,1,0,1,1,1,1,1,1,1,0,1,0,1,1] a H K = K .ret a H := at_ret (by kernel_rfl)
theorem n23_94 : g23 call k [1,1,1,1,0,0,0,1,0,1,1,1,1,1,1,1,0,1,1] a H K = K .normal a H := at_skip (by kernel_rfl)
theorem n23_95 : g23 call k [1,1,1,1,0,0,0,1,0,1,1,1,1,1,1,1,1] a H K = o23 0 call [1,1,1,1,0,0,0,1,0,1,1,1,1,1,1,1,1] 0 a H (K .normal) := at_region (by kernel_rfl)
theorem n23_96 : g23 call k [1,1,1,1,0,0,0,1,0,1,1,1,1,1,1,0,1,0,1,0,1,0,0] a H K = o23 0 call [1,1,1,1,0,0,0,1,0,1,1,1,1,1,1,0,1,0,1,0,1,0,0] 0 a H (K .normal) := at_region (by kernel_rfl)
theorem n23_97 : g23 call k [1,1,1,1,0,0,0,1,0,1,1,1,1,1,1,0,1,0,1,0,1,0,1] a H K = onBool (asB (GA.eval a (.tmp 102))) (g23 call k [1,1,1,1,0,0,0,1,0,1,1,1,1,1,1,0,1,0,1,0,1,0,1,0] a H K) (g23 call k [1,1,1,1,0,0,0,1,0,1,1,1,1,1,1,0,1,0,1,0,1,0,1,1] a H K) := at_cond (by kernel_rfl)
theorem n23_98 : g23 call k [1,1,1,1,0,0,0,1,0,1,1,1,1,1,1,0,1,0,1,0,1,0,1,0] a H K = g23 call k [1,1,1,1,0,0,0,1,0,1,1,1,1,1,1,0,1,0,1,0,1,0,1,0,0] a H (hSeq (g23 call k [1,1,1,1,0,0,0,1,0,1,1,1,1,1,1,0,1,0,1,0,1,0,1,0,1]) K) := at_seq (by kernel_rfl)
theorem n23_99 : g23 call k [1,1,1,1,0,0,0,1,0,1,1,1,1,1,1,0,1,0,1,0,1,0,1,0,0] a H K = o23 0 call [1,1,1,1,0,0,0,1,0,1,1,1,1,1,1,0,1,0,1,0,1,0,1,0,0] 0 a H (K .normal) := at_region (by kernel_rfl)
theorem n23_100 : g23 call k [1,1,1,1,0,0,0,1,0,1,1,1,1,1,1,0,1,0,1,0,1,0,1,0,1] a H K = g23 call k [1,1,1,1,0,0,0,1,0,1,1,1,1,1,1,0,1,0,1,0,1,0,1,0,1,0] a H (hSeq (g23 call k [1,1,1,1,0,0,0,1,0,1,1,1,1,1,1,0,1,0,1,0,1,0,1,0,1,1]) K) := at_seq (by kernel_rfl)
theorem n23_101 : g23 call k [1,1,1,1,0,0,0,1,0,1,1,1,1,1,1,0,1,0,1,0,1,0,1,0,1,0] a H K = o23 0 call [1,1,1,1,0,0,0,1,0,1,1,1,1,1,1,0,1,0,1,0,1,0,1,0,1,0] 0 a H (K .normal) := at_region (by kernel_rfl)
theorem n23_102 : g23 call k [1,1,1,1,0,0,0,1,0,1,1,1,1,1,1,0,1,0,1,0,1,0,1,0,1,1] a H K = K .ret a H := at_ret (by kernel_rfl)
theorem n23_103 : g23 call k [1,1,1,1,0,0,0,1,0,1,1,1,1,1,1,0,1,0,1,0,1,0,1,1] a H K = K .normal a H := at_skip (by kernel_rfl)
theorem n23_104 : g23 call k [1,1,1,1,0,0,0,1,0,1,1,1,1,1,1,0,1,0,1,0,1,1] a H K = o23 0 call [1,1,1,1,0,0,0,1,0,1,1,1,1,1,1,0,1,0,1,0,1,1] 0 a H (K .normal) := at_region (by kernel_rfl)
theorem s23_0 : o23 0 call [0] 0 (FG 124 (fun _ => undef) [(0, p0)]) H K' =
  K' (FG 124 (fun _ => undef) [(2, (.pointer (some ⟨(GH.push H (.row (Value.cells p0).toList 24 false)).n, 0, none⟩))), (1, (.pointer (some ⟨H.n, 0, none⟩))), (0, p0)]) (GH.push (GH.push H (.row (Value.cells p0).toList 24 false)) (.row [(.slice none 0 0), (.bool false), (.bool false), (.int .i64 0)] 55 false)) := by kernel_rfl
theorem s23_1 : t23 1 call [1,0,0] 0 4 (FG 124 (fun _ => undef) [(2, (.pointer (some ⟨(GH.push H (.row (Value.cells p0).toList 24 false)).n, 0, none⟩))), (1, (.pointer (some ⟨H.n, 0, none⟩))), (0, p0)]) (GH.push (GH.push H (.row (Value.cells p0).toList 24 false)) (.row [(.slice none 0 0), (.bool false), (.bool false), (.int .i64 0)] 55 false)) K' =
  onV (gLoad Tryd.prog 24 (.pointer (some ⟨H.n, 0, none⟩)) (GH.push (GH.push H (.row (Value.cells p0).toList 24 false)) (.row [(.slice none 0 0), (.bool false), (.bool false), (.int .i64 0)] 55 false))) fun v1 =>
  onV (oLen Tryd.prog 24 v1) fun v2 =>
  onV ((oBin Tryd.prog .lss 3 v2 (.int .i64 4)).filter closed) fun v3 =>
  onGrd true v3 (K' (FG 124 (fun _ => undef) [(15, v3), (14, v3), (13, v2), (12, v1), (2, (.pointer (some ⟨(GH.push H (.row (Value.cells p0).toList 24 false)).n, 0, none⟩))), (1, (.pointer (some ⟨H.n, 0, none⟩))), (0, p0)]) (GH.push (GH.push H (.row (Value.cells p0).toList 24 false)) (.row [(.slice none 0 0), (.bool false), (.bool false), (.int .i64 0)] 55 false))) := by kernel_rfl
theorem s23_2 : o23 1 call [1,0,0] 4 (FG 124 d [(123, undef), (122, undef), (121, undef), (120, undef), (119, undef), (118, undef), (117, undef), (116, undef), (115, undef), (114, undef), (113, undef), (112, undef), (111, undef), (110, undef), (109, undef), (108, undef), (107, undef), (106, undef), (105, undef), (104, undef), (103, undef), (102, undef), (101, undef), (100, undef), (99, undef), (98, undef), (97, undef), (96, undef), (95, undef), (94, undef), (93, undef), (92, undef), (91, undef), (90, undef), (86, undef), (85, undef), (84, undef), (83, undef), (82, undef), (81, undef), (80, undef), (79, undef), (78, undef), (75, undef), (74, undef), (59, undef), (58, undef), (23, undef), (22, undef), (15, (.bool true)), (11, undef), (10, undef)]) H K' =
  K' (FG 124 d [(21, (.bool true)), (20, undef), (19, undef), (18, undef), (17, undef), (16, undef), (123, undef), (122, undef), (121, undef), (120, undef), (119, undef), (118, undef), (117, undef), (116, undef), (115, undef), (114, undef), (113, undef), (112, undef), (111, undef), (110, undef), (109, undef), (108, undef), (107, undef), (106, undef), (105, undef), (104, undef), (103, undef), (102, undef), (101, undef), (100, undef), (99, undef), (98, undef), (97, undef), (96, undef), (95, undef), (94, undef), (93, undef), (92, undef), (91, undef), (90, undef), (86, undef), (85, undef), (84, undef), (83, undef), (82, undef), (81, undef), (80, undef), (79, undef), (78, undef), (75, undef), (74, undef), (59, undef), (58, undef), (23, undef), (22, undef), (15, (.bool true)), (11, undef), (10, undef)]) H := by kernel_rfl
theorem s23_3 : o23 0 call [1,0,1,0,0] 0 (FG 124 d [(21, (.bool true)), (20, undef), (19, undef), (18, undef), (17, undef), (16, undef), (123, undef), (122, undef), (121, undef), (120, undef), (119, undef), (118, undef), (117, undef), (116, undef), (115, undef), (114, undef), (113, undef), (112, undef), (111, undef), (110, undef), (109, undef), (108, undef), (107, undef), (106, undef), (105, undef), (104, undef), (103, undef), (102, undef), (101, undef), (100, undef), (99, undef), (98, undef), (97, undef), (96, undef), (95, undef), (94, undef), (93, undef), (92, undef), (91, undef), (90, undef), (86, undef), (85, undef), (84, undef), (83, undef), (82, undef), (81, undef), (80, undef), (79, undef), (78, undef), (75, undef), (74, undef), (59, undef), (58, undef), (23, undef), (22, undef), (15, (.bool true)), (11, undef), (10, undef)]) H K' =
  onV (oFieldAddr Tryd.prog 55 (d 2) 3) fun v1 =>
  onH (gStore Tryd.prog 28 v1 (.int .i64 4) H) fun H2 =>
  K' (FG 124 d [(22, v1), (21, (.bool true)), (20, undef), (19, undef), (18, undef), (17, undef), (16, undef), (123, undef), (122, undef), (121, undef), (120, undef), (119, undef), (118, undef), (117, undef), (116, undef), (115, undef), (114, undef), (113, undef), (112, undef), (111, undef), (110, undef), (109, undef), (108, undef), (107, undef), (106, undef), (105, undef), (104, undef), (103, undef), (102, undef), (101, undef), (100, undef), (99, undef), (98, undef), (97, undef), (96, undef), (95, undef), (94, undef), (93, undef), (92, undef), (91, undef), (90, undef), (86, undef), (85, undef), (84, undef), (83, undef), (82, undef), (81, undef), (80, undef), (79, undef), (78, undef), (75, undef), (74, undef), (59, undef), (58, undef), (23, undef), (22, undef), (15, (.bool true)), (11, undef), (10, undef)]) H2 := by kernel_rfl
theorem s23_4 : o23 0 call [1,0,1,0,1,0] 0 (FG 124 d [(22, v1), (21, (.bool true)), (20, undef), (19, undef), (18, undef), (17, undef), (16, undef), (123, undef), (122, undef), (121, undef), (120, undef), (119, undef), (118, undef), (117, undef), (116, undef), (115, undef), (114, undef), (113, undef), (112, undef), (111, undef), (110, undef), (109, undef), (108, undef), (107, undef), (106, undef), (105, undef), (104, undef), (103, undef), (102, undef), (101, undef), (100, undef), (99, undef), (98, undef), (97, undef), (96, undef), (95, undef), (94, undef), (93, undef), (92, undef), (91, undef), (90, undef), (86, undef), (85, undef), (84, undef), (83, undef), (82, undef), (81, undef), (80, undef), (79, undef), (78, undef), (75, undef), (74, undef), (59, undef), (58, undef), (23, undef), (22, undef), (15, (.bool true)), (11, undef), (10, undef)]) H2 K' =
  onV (gLoad Tryd.prog 55 (d 2) H2) fun v3 =>
  onH (gStore Tryd.prog 55 (d 2) v3 H2) fun H4 =>
  K' (FG 124 d [(23, v3), (22, v1), (21, (.bool true)), (20, undef), (19, undef), (18, undef), (17, undef), (16, undef), (123, undef), (122, undef), (121, undef), (120, undef), (119, undef), (118, undef), (117, undef), (116, undef), (115, undef), (114, undef), (113, undef), (112, undef), (111, undef), (110, undef), (109, undef), (108, undef), (107, undef), (106, undef), (105, undef), (104, undef), (103, undef), (102, undef), (101, undef), (100, undef), (99, undef), (98, undef), (97, undef), (96, undef), (95, undef), (94, undef), (93, undef), (92, undef), (91, undef), (90, undef), (86, undef), (85, undef), (84, undef), (83, undef), (82, undef), (81, undef), (80, undef), (79, undef), (78, undef), (75, undef), (74, undef), (59, undef), (58, undef), (23, undef), (22, undef), (15, (.bool true)), (11, undef), (10, undef)]) H4 := by kernel_rfl
theorem s23_5 : o23 1 call [1,0,0] 4 (FG 124 d [(123, undef), (122, undef), (121, undef), (120, undef), (119, undef), (118, undef), (117, undef), (116, undef), (115, undef), (114, undef), (113, undef), (112, undef), (111, undef), (110, undef), (109, undef), (108, undef), (107, undef), (106, undef), (105, undef), (104, undef), (103, undef), (102, undef), (101, undef), (100, undef), (99, undef), (98, undef), (97, undef), (96, undef), (95, undef), (94, undef), (93, undef), (92, undef), (91, undef), (90, undef), (86, undef), (85, undef), (84, undef), (83, undef), (82, undef), (81, undef), (80, undef), (79, undef), (78, undef), (75, undef), (74, undef), (59, undef), (58, undef), (23, undef), (22, undef), (15, (.bool false)), (11, undef), (10, undef)]) H K' =
  onV (gLoad Tryd.prog 24 (d 1) H) fun v1 =>
  onV (oSlice Tryd.prog 24 v1 none (some (.int .i64 4)) none) fun v2 =>
  onV (oSlice Tryd.prog 60 (.pointer (some ⟨0, 0, none⟩)) none none none) fun v3 =>
  onCall 1 call (.func (.func 29) #[] #[]) [v2, v3] H fun v4 H5 =>
  onV ((oUn Tryd.prog .not v4).filter closed) fun v6 =>
  K' (FG 124 d [(21, v6), (20, v6), (19, v4), (18, v3), (17, v2), (16, v1), (123, undef), (122, undef), (121, undef), (120, undef), (119, undef), (118, undef), (117, undef), (116, undef), (115, undef), (114, undef), (113, undef), (112, undef), (111, undef), (110, undef), (109, undef), (108, undef), (107, undef), (106, undef), (105, undef), (104, undef), (103, undef), (102, undef), (101, undef), (100, undef), (99, undef), (98, undef), (97, undef), (96, undef), (95, undef), (94, undef), (93, undef), (92, undef), (91, undef), (90, undef), (86, undef), (85, undef), (84, undef), (83, undef), (82, undef), (81, undef), (80, undef), (79, undef), (78, undef), (75, undef), (74, undef), (59, undef), (58, undef), (23, undef), (22, undef), (15, (.bool false)), (11, undef), (10, undef)]) H5 := by kernel_rfl
theorem s23_6 : o23 0 call [1,0,1,0,0] 0 (FG 124 d [(21, v6), (20, v6), (19, v4), (18, v3), (17, v2), (16, v1), (123, undef), (122, undef), (121, undef), (120, undef), (119, undef), (118, undef), (117, undef), (116, undef), (115, undef), (114, undef), (113, undef), (112, undef), (111, undef), (110, undef), (109, undef), (108, undef), (107, undef), (106, undef), (105, undef), (104, undef), (103, undef), (102, undef), (101, undef), (100, undef), (99, undef), (98, undef), (97, undef), (96, undef), (95, undef), (94, undef), (93, undef), (92, undef), (91, undef), (90, undef), (86, undef), (85, undef), (84, undef), (83, undef), (82, undef), (81, undef), (80, undef), (79, undef), (78, undef), (75, undef), (74, undef), (59, undef), (58, undef), (23, undef), (22, undef), (15, (.bool false)), (11, undef), (10, undef)]) H5 K' =
  onV (oFieldAddr Tryd.prog 55 (d 2) 3) fun v7 =>
  onH (gStore Tryd.prog 28 v7 (.int .i64 4) H5) fun H8 =>
  K' (FG 124 d [(22, v7), (21, v6), (20, v6), (19, v4), (18, v3), (17, v2), (16, v1), (123, undef), (122, undef), (121, undef), (120, undef), (119, undef), (118, undef), (117, undef), (116, undef), (115, undef), (114, undef), (113, undef), (112, undef), (111, undef), (110, undef), (109, undef), (108, undef), (107, undef), (106, undef), (105, undef), (104, undef), (103, undef), (102, undef), (101, undef), (100, undef), (99, undef), (98, undef), (97, undef), (96, undef), (95, undef), (94, undef), (93, undef), (92, undef), (91, undef), (90, undef), (86, undef), (85, undef), (84, undef), (83, undef), (82, undef), (81, undef), (80, undef), (79, undef), (78, undef), (75, undef), (74, undef), (59, undef), (58, undef), (23, undef), (22, undef), (15, (.bool false)), (11, undef), (10, undef)]) H8 := by kernel_rfl
theorem s23_7 : o23 0 call [1,0,1,0,1,0] 0 (FG 124 d [(22, v7), (21, v6), (20, v6), (19, v4), (18, v3), (17, v2), (16, v1), (123, undef), (122, undef), (121, undef), (120, undef), (119, undef), (118, undef), (117, undef), (116, undef), (115, undef), (114, undef), (113, undef), (112, undef), (111, undef), (110, undef), (109, undef), (108, undef), (107, undef), (106, undef), (105, undef), (104, undef), (103, undef), (102, undef), (101, undef), (100, undef), (99, undef), (98, undef), (97, undef), (96, undef), (95, undef), (94, undef), (93, undef), (92, undef), (91, undef), (90, undef), (86, undef), (85, undef), (84, undef), (83, undef), (82, undef), (81, undef), (80, undef), (79, undef), (78, undef), (75, undef), (74, undef), (59, undef), (58, undef), (23, undef), (22, undef), (15, (.bool false)), (11, undef), (10, undef)]) H8 K' =
  onV (gLoad Tryd.prog 55 (d 2) H8) fun v9 =>
  onH (gStore Tryd.prog 55 (d 2) v9 H8) fun H10 =>
  K' (FG 124 d [(23, v9), (22, v7), (21, v6), (20, v6), (19, v4), (18, v3), (17, v2), (16, v1), (123, undef), (122, undef), (121, undef), (120, undef), (119, undef), (118, undef), (117, undef), (116, undef), (115, undef), (114, undef), (113, undef), (112, undef), (111, undef), (110, undef), (109, undef), (108, undef), (107, undef), (106, undef), (105, undef), (104, undef), (103, undef), (102, undef), (101, undef), (100, undef), (99, undef), (98, undef), (97, undef), (96, undef), (95, undef), (94, undef), (93, undef), (92, undef), (91, undef), (90, undef), (86, undef), (85, undef), (84, undef), (83, undef), (82, undef), (81, undef), (80, undef), (79, undef), (78, undef), (75, undef), (74, undef), (59, undef), (58, undef), (23, undef), (22, undef), (15, (.bool false)), (11, undef), (10, undef)]) H10 := by kernel_rfl
theorem s23_8 : o23 0 call [1,1,0] 0 (FG 124 d [(21, v6), (20, v6), (19, v4), (18, v3), (17, v2), (16, v1), (123, undef), (122, undef), (121, undef), (120, undef), (119, undef), (118, undef), (117, undef), (116, undef), (115, undef), (114, undef), (113, undef), (112, undef), (111, undef), (110, undef), (109, undef), (108, undef), (107, undef), (106, undef), (105, undef), (104, undef), (103, undef), (102, undef), (101, undef), (100, undef), (99, undef), (98, undef), (97, undef), (96, undef), (95, undef), (94, undef), (93, undef), (92, undef), (91, undef), (90, undef), (86, undef), (85, undef), (84, undef), (83, undef), (82, undef), (81, undef), (80, undef), (79, undef), (78, undef), (75, undef), (74, undef), (59, undef), (58, undef), (23, undef), (22, undef), (15, (.bool false)), (11, undef), (10, undef)]) H5 K' =
  onV (gLoad Tryd.prog 24 (d 1) H5) fun v11 =>
  onV (oSlice Tryd.prog 24 v11 (some (.int .i64 4)) none none) fun v12 =>
  onH (gStore Tryd.prog 24 (d 1) v12 H5) fun H13 =>
  K' (FG 124 d [(25, v12), (24, v11), (21, v6), (20, v6), (19, v4), (18, v3), (17, v2), (16, v1), (123, undef), (122, undef), (121, undef), (120, undef), (119, undef), (118, undef), (117, undef), (116, undef), (115, undef), (114, undef), (113, undef), (112, undef), (111, undef), (110, undef), (109, undef), (108, undef), (107, undef), (106, undef), (105, undef), (104, undef), (103, undef), (102, undef), (101, undef), (100, undef), (99, undef), (98, undef), (97, undef), (96, undef), (95, undef), (94, undef), (93, undef), (92, undef), (91, undef), (90, undef), (86, undef), (85, undef), (84, undef), (83, undef), (82, undef), (81, undef), (80, undef), (79, undef), (78, undef), (75, undef), (74, undef), (59, undef), (58, undef), (23, undef), (22, undef), (15, (.bool false)), (11, undef), (10, undef)]) H13 := by kernel_rfl
theorem s23_9 : o23 0 call [1,1,1,0] 0 (FG 124 d [(25, v12), (24, v11), (21, v6), (20, v6), (19, v4), (18, v3), (17, v2), (16, v1), (123, undef), (122, undef), (121, undef), (120, undef), (119, undef), (118, undef), (117, undef), (116, undef), (115, undef), (114, undef), (113, undef), (112, undef), (111, undef), (110, undef), (109, undef), (108, undef), (107, undef), (106, undef), (105, undef), (104, undef), (103, undef), (102, undef), (101, undef), (100, undef), (99, undef), (98, undef), (97, undef), (96, undef), (95, undef), (94, undef), (93, undef), (92, undef), (91, undef), (90, undef), (86, undef), (85, undef), (84, undef), (83, undef), (82, undef), (81, undef), (80, undef), (79, undef), (78, undef), (75, undef), (74, undef), (59, undef), (58, undef), (23, undef), (22, undef), (15, (.bool false)), (11, undef), (10, undef)]) H13 K' =
  K' (FG 124 d [(3, (.func (.func 30) #[] #[(d 1)])), (26, (.func (.func 30) #[] #[(d 1)])), (25, v12), (24, v11), (21, v6), (20, v6), (19, v4), (18, v3), (17, v2), (16, v1), (123, undef), (122, undef), (121, undef), (120, undef), (119, undef), (118, undef), (117, undef), (116, undef), (115, undef), (114, undef), (113, undef), (112, undef), (111, undef), (110, undef), (109, undef), (108, undef), (107, undef), (106, undef), (105, undef), (104, undef), (103, undef), (102, undef), (101, undef), (100, undef), (99, undef), (98, undef), (97, undef), (96, undef), (95, undef), (94, undef), (93, undef), (92, undef), (91, undef), (90, undef), (86, undef), (85, undef), (84, undef), (83, undef), (82, undef), (81, undef), (80, undef), (79, undef), (78, undef), (75, undef), (74, undef), (59, undef), (58, undef), (23, undef), (22, undef), (15, (.bool false)), (11, undef), (10, undef)]) H13 := by kernel_rfl
theorem s23_10 : o23 0 call [1,1,1,1,0,0,0,0,0] 0 (FG 124 d [(123, undef), (122, undef), (90, undef)]) H K' =
  onV (gLoad Tryd.prog 24 (d 1) H) fun v1 =>
  onV (oLen Tryd.prog 24 v1) fun v2 =>
  onV ((oBin Tryd.prog .gtr 3 v2 (.int .i64 0)).filter closed) fun v3 =>
  K' (FG 124 d [(29, v3), (28, v2), (27, v1), (123, undef), (122, undef), (90, undef)]) H := by kernel_rfl
theorem s23_11 : o23 0 call [1,1,1,1,0,0,0,1,0,0] 0 (FG 124 d [(29, v3), (28, v2), (27, v1), (123, undef), (122, undef), (90, undef)]) H K' =
  onV (gLoad Tryd.prog 24 (d 1) H) fun v4 =>
  onV (oIndexAddr Tryd.prog 24 v4 (.int .i64 0)) fun v5 =>
  onV (gLoad Tryd.prog 5 v5 H) fun v6 =>
  onV ((oConvert Tryd.prog 5 3 v6).filter closed) fun v7 =>
  K' (FG 124 d [(4, v7), (33, v7), (32, v6), (31, v5), (30, v4), (29, v3), (28, v2), (27, v1), (123, undef), (122, undef), (90, undef)]) H := by kernel_rfl
theorem s23_12 : o23 0 call [1,1,1,1,0,0,0,1,0,1,0] 0 (FG 124 d [(123, undef), (122, undef), (90, undef)]) H K' =
  onV ((oBin Tryd.prog .mul 3 (d 4) (.int .i64 3)).filter closed) fun v1 =>
  onV ((oBin Tryd.prog .add 3 (.int .i64 1) v1).filter closed) fun v2 =>
  onCall 0 call (d 3) [v2] H fun v3 H4 =>
  onV (oExtract v3 0) fun v5 =>
  onV (oExtract v3 1) fun v6 =>
  K' (FG 124 d [(6, v6), (5, v5), (41, v6), (40, v5), (34, v3), (39, v3), (38, v2), (37, v1), (36, (d 4)), (35, (d 3)), (123, undef), (122, undef), (90, undef)]) H4 := by kernel_rfl
theorem s23_13 : o23 0 call [1,1,1,1,0,0,0,1,0,1,1,0] 0 (FG 124 d [(6, v6), (5, v5), (41, v6), (40, v5), (34, v3), (39, v3), (38, v2), (37, v1), (36, (d 4)), (35, (d 3)), (123, undef), (122, undef), (90, undef)]) H4 K' =
  onCall 0 call (d 3) [(.int .i64 2)] H4 fun v7 H8 =>
  onV (oExtract v7 0) fun v9 =>
  onV (oExtract v7 1) fun v10 =>
  K' (FG 124 d [(8, v10), (7, v9), (46, v10), (45, v9), (42, v7), (44, v7), (43, (d 3)), (6, v6), (5, v5), (41, v6), (40, v5), (34, v3), (39, v3), (38, v2), (37, v1), (36, (d 4)), (35, (d 3)), (123, undef), (122, undef), (90, undef)]) H8 := by kernel_rfl
theorem s23_14 : o23 0 call [1,1,1,1,1,0] 0 (FF 124 d) H K' =
  onV (oFieldAddr Tryd.prog 55 (d 2) 1) fun v1 =>
  onH (gStore Tryd.prog 4 v1 (.bool true) H) fun H2 =>
  K' (FG 124 d [(122, v1)]) H2 := by kernel_rfl
theorem s23_15 : o23 0 call [1,1,1,1,1,1,0] 0 (FG 124 d [(122, v1)]) H2 K' =
  onV (gLoad Tryd.prog 55 (d 2) H2) fun v3 =>
  onH (gStore Tryd.prog 55 (d 2) v3 H2) fun H4 =>
  K' (FG 124 d [(123, v3), (122, v1)]) H4 := by kernel_rfl
theorem s23_16 : t23 0 call [1,1,1,1,0,0,0,1,0,1,1,1,0,0,0] 0 3 (FG 124 d [(123, undef), (122, undef), (90, undef)]) H K' =
  onV ((oBin Tryd.prog .gtr 3 (d 4) (.int .i64 32)).filter closed) fun v1 =>
  onGrd true v1 (K' (FG 124 d [(50, v1), (49, v1), (48, (d 4)), (123, undef), (122, undef), (90, undef)]) H) := by kernel_rfl
theorem s23_17 : o23 0 call [1,1,1,1,0,0,0,1,0,1,1,1,0,0,0] 3 (FG 124 d [(123, undef), (122, undef), (90, undef), (50, (.bool true))]) H K' =
  K' (FG 124 d [(47, (.bool true)), (57, (.bool true)), (56, undef), (55, undef), (54, (.bool true)), (53, (.bool true)), (52, undef), (51, undef), (123, undef), (122, undef), (90, undef), (50, (.bool true))]) H := by kernel_rfl
theorem s23_18 : o23 0 call [1,1,1,1,0,0,0,1,0,1,1,1,0,0,1,0,0] 0 (FG 124 d [(47, (.bool true)), (57, (.bool true)), (56, undef), (55, undef), (54, (.bool true)), (53, (.bool true)), (52, undef), (51, undef), (123, undef), (122, undef), (90, undef), (50, (.bool true))]) H K' =
  onV (oFieldAddr Tryd.prog 55 (d 2) 3) fun v1 =>
  onH (gStore Tryd.prog 28 v1 (.int .i64 4) H) fun H2 =>
  K' (FG 124 d [(58, v1), (47, (.bool true)), (57, (.bool true)), (56, undef), (55, undef), (54, (.bool true)), (53, (.bool true)), (52, undef), (51, undef), (123, undef), (122, undef), (90, undef), (50, (.bool true))]) H2 := by kernel_rfl
theorem s23_19 : o23 0 call [1,1,1,1,0,0,0,1,0,1,1,1,0,0,1,0,1,0] 0 (FG 124 d [(58, v1), (47, (.bool true)), (57, (.bool true)), (56, undef), (55, undef), (54, (.bool true)), (53, (.bool true)), (52, undef), (51, undef), (123, undef), (122, undef), (90, undef), (50, (.bool true))]) H2 K' =
  onV (gLoad Tryd.prog 55 (d 2) H2) fun v3 =>
  onH (gStore Tryd.prog 55 (d 2) v3 H2) fun H4 =>
  K' (FG 124 d [(59, v3), (58, v1), (47, (.bool true)), (57, (.bool true)), (56, undef), (55, undef), (54, (.bool true)), (53, (.bool true)), (52, undef), (51, undef), (123, undef), (122, undef), (90, undef), (50, (.bool true))]) H4 := by kernel_rfl
theorem s23_20 : t23 0 call [1,1,1,1,0,0,0,1,0,1,1,1,0,0,0] 3 4 (FG 124 d [(123, undef), (122, undef), (90, undef), (50, (.bool false))]) H K' =
  onV ((oUn Tryd.prog .not (d 6)).filter closed) fun v1 =>
  onGrd true v1 (K' (FG 124 d [(54, v1), (53, v1), (52, v1), (51, (d 6)), (123, undef), (122, undef), (90, undef), (50, (.bool false))]) H) := by kernel_rfl
theorem s23_21 : o23 0 call [1,1,1,1,0,0,0,1,0,1,1,1,0,0,0] 7 (FG 124 d [(123, undef), (122, undef), (90, undef), (54, (.bool true))]) H K' =
  K' (FG 124 d [(47, (.bool true)), (57, (.bool true)), (56, undef), (55, undef), (123, undef), (122, undef), (90, undef), (54, (.bool true))]) H := by kernel_rfl
theorem s23_22 : o23 0 call [1,1,1,1,0,0,0,1,0,1,1,1,0,0,1,0,0] 0 (FG 124 d [(47, (.bool true)), (57, (.bool true)), (56, undef), (55, undef), (123, undef), (122, undef), (90, undef), (54, (.bool true))]) H K' =
  onV (oFieldAddr Tryd.prog 55 (d 2) 3) fun v1 =>
  onH (gStore Tryd.prog 28 v1 (.int .i64 4) H) fun H2 =>
  K' (FG 124 d [(58, v1), (47, (.bool true)), (57, (.bool true)), (56, undef), (55, undef), (123, undef), (122, undef), (90, undef), (54, (.bool true))]) H2 := by kernel_rfl
theorem s23_23 : o23 0 call [1,1,1,1,0,0,0,1,0,1,1,1,0,0,1,0,1,0] 0 (FG 124 d [(58, v1), (47, (.bool true)), (57, (.bool true)), (56, undef), (55, undef), (123, undef), (122, undef), (90, undef), (54, (.bool true))]) H2 K' =
  onV (gLoad Tryd.prog 55 (d 2) H2) fun v3 =>
  onH (gStore Tryd.prog 55 (d 2) v3 H2) fun H4 =>
  K' (FG 124 d [(59, v3), (58, v1), (47, (.bool true)), (57, (.bool true)), (56, undef), (55, undef), (123, undef), (122, undef), (90, undef), (54, (.bool true))]) H4 := by kernel_rfl
theorem s23_24 : o23 0 call [1,1,1,1,0,0,0,1,0,1,1,1,0,0,0] 7 (FG 124 d [(123, undef), (122, undef), (90, undef), (54, (.bool false))]) H K' =
  onV ((oUn Tryd.prog .not (d 8)).filter closed) fun v1 =>
  K' (FG 124 d [(47, v1), (57, v1), (56, v1), (55, (d 8)), (123, undef), (122, undef), (90, undef), (54, (.bool false))]) H := by kernel_rfl
theorem s23_25 : o23 0 call [1,1,1,1,0,0,0,1,0,1,1,1,0,0,1,0,0] 0 (FG 124 d [(47, v1), (57, v1), (56, v1), (55, (d 8)), (123, undef), (122, undef), (90, undef), (54, (.bool false))]) H K' =
  onV (oFieldAddr Tryd.prog 55 (d 2) 3) fun v2 =>
  onH (gStore Tryd.prog 28 v2 (.int .i64 4) H) fun H3 =>
  K' (FG 124 d [(58, v2), (47, v1), (57, v1), (56, v1), (55, (d 8)), (123, undef), (122, undef), (90, undef), (54, (.bool false))]) H3 := by kernel_rfl
theorem s23_26 : o23 0 call [1,1,1,1,0,0,0,1,0,1,1,1,0,0,1,0,1,0] 0 (FG 124 d [(58, v2), (47, v1), (57, v1), (56, v1), (55, (d 8)), (123, undef), (122, undef), (90, undef), (54, (.bool false))]) H3 K' =
  onV (gLoad Tryd.prog 55 (d 2) H3) fun v4 =>
  onH (gStore Tryd.prog 55 (d 2) v4 H3) fun H5 =>
  K' (FG 124 d [(59, v4), (58, v2), (47, v1), (57, v1), (56, v1), (55, (d 8)), (123, undef), (122, undef), (90, undef), (54, (.bool false))]) H5 := by kernel_rfl
theorem s23_27 : o23 2 call [1,1,1,1,0,0,0,1,0,1,1,1,0,0,1,1,0] 0 (FG 124 d [(123, undef), (122, undef), (90, undef)]) H K' =
  onCall 2 call (.func (.func 12) #[] #[]) [(d 5)] H fun v1 H2 =>
  onV (oIndexAddr Tryd.prog 24 (d 7) (.int .i64 0)) fun v3 =>
  onV (gLoad Tryd.prog 5 v3 H2) fun v4 =>
  onV ((oConvert Tryd.prog 5 40 v4).filter closed) fun v5 =>
  onV ((oBin Tryd.prog .shl 40 v5 (.int .u64 8)).filter closed) fun v6 =>
  onV (oIndexAddr Tryd.prog 24 (d 7) (.int .i64 1)) fun v7 =>
  onV (gLoad Tryd.prog 5 v7 H2) fun v8 =>
  onV ((oConvert Tryd.prog 5 40 v8).filter closed) fun v9 =>
  onV ((oBin Tryd.prog .add 40 v6 v9).filter closed) fun v10 =>
  onV ((oBin Tryd.prog .neq 40 v1 v10).filter closed) fun v11 =>
  K' (FG 124 d [(60, v11), (73, v11), (72, v10), (71, v9), (70, v8), (69, v7), (68, (d 7)), (67, v6), (66, v5), (65, v4), (64, v3), (63, (d 7)), (62, v1), (61, (d 5)), (123, undef), (122, undef), (90, undef)]) H2 := by kernel_rfl
theorem s23_28 : o23 0 call [1,1,1,1,0,0,0,1,0,1,1,1,0,0,1,1,1,0,0] 0 (FG 124 d [(60, v11), (73, v11), (72, v10), (71, v9), (70, v8), (69, v7), (68, (d 7)), (67, v6), (66, v5), (65, v4), (64, v3), (63, (d 7)), (62, v1), (61, (d 5)), (123, undef), (122, undef), (90, undef)]) H2 K' =
  onV (oFieldAddr Tryd.prog 55 (d 2) 3) fun v12 =>
  onH (gStore Tryd.prog 28 v12 (.int .i64 10) H2) fun H13 =>
  K' (FG 124 d [(74, v12), (60, v11), (73, v11), (72, v10), (71, v9), (70, v8), (69, v7), (68, (d 7)), (67, v6), (66, v5), (65, v4), (64, v3), (63, (d 7)), (62, v1), (61, (d 5)), (123, undef), (122, undef), (90, undef)]) H13 := by kernel_rfl
theorem s23_29 : o23 0 call [1,1,1,1,0,0,0,1,0,1,1,1,1,0,0] 0 (FG 124 d [(60, v11), (73, v11), (72, v10), (71, v9), (70, v8), (69, v7), (68, (d 7)), (67, v6), (66, v5), (65, v4), (64, v3), (63, (d 7)), (62, v1), (61, (d 5)), (123, undef), (122, undef), (90, undef)]) H2 K' =
  onV ((oBin Tryd.prog .eql 3 (d 4) (.int .i64 0)).filter closed) fun v14 =>
  K' (FG 124 d [(77, v14), (76, (d 4)), (60, v11), (73, v11), (72, v10), (71, v9), (70, v8), (69, v7), (68, (d 7)), (67, v6), (66, v5), (65, v4), (64, v3), (63, (d 7)), (62, v1), (61, (d 5)), (123, undef), (122, undef), (90, undef)]) H2 := by kernel_rfl
theorem s23_30 : o23 0 call [1,1,1,1,0,0,0,1,0,1,1,1,1,1,0] 0 (FG 124 d [(77, v14), (76, (d 4)), (60, v11), (73, v11), (72, v10), (71, v9), (70, v8), (69, v7), (68, (d 7)), (67, v6), (66, v5), (65, v4), (64, v3), (63, (d 7)), (62, v1), (61, (d 5)), (123, undef), (122, undef), (90, undef)]) H2 K' =
  K' (FG 124 d [(9, (.pointer (some ⟨H2.n, 0, none⟩))), (77, v14), (76, (d 4)), (60, v11), (73, v11), (72, v10), (71, v9), (70, v8), (69, v7), (68, (d 7)), (67, v6), (66, v5), (65, v4), (64, v3), (63, (d 7)), (62, v1), (61, (d 5)), (123, undef), (122, undef), (90, undef)]) (GH.push H2 (.row [(.slice none 0 0)] 26 false)) := by kernel_rfl
theorem s23_31 : o23 0 call [1,1,1,1,0,0,0,1,0,1,1,1,0,0,1,1,1,0,1,0] 0 (FF 124 d) H K' =
  onV (gLoad Tryd.prog 55 (d 2) H) fun v1 =>
  onH (gStore Tryd.prog 55 (d 2) v1 H) fun H2 =>
  K' (FG 124 d [(75, v1)]) H2 := by kernel_rfl
theorem s23_32 : o23 0 call [1,1,1,1,0,0,0,1,0,1,1,1,1,0,1,0,0,0] 0 (FF 124 d) H K' =
  onV (gLoad Tryd.prog 24 (d 1) H) fun v1 =>
  onV (oLen Tryd.prog 24 v1) fun v2 =>
  onV ((oBin Tryd.prog .eql 3 v2 (.int .i64 0)).filter closed) fun v3 =>
  onV (oFieldAddr Tryd.prog 55 (d 2) 2) fun v4 =>
  onH (gStore Tryd.prog 4 v4 v3 H) fun H5 =>
  K' (FG 124 d [(81, v4), (80, v3), (79, v2), (78, v1)]) H5 := by kernel_rfl
theorem s23_33 : o23 0 call [1,1,1,1,0,0,0,1,0,1,1,1,1,0,1,0,0,1,0] 0 (FG 124 d [(81, v4), (80, v3), (79, v2), (78, v1)]) H5 K' =
  onV (oFieldAddr Tryd.prog 55 (d 2) 2) fun v6 =>
  onV (gLoad Tryd.prog 4 v6 H5) fun v7 =>
  onV ((oUn Tryd.prog .not v7).filter closed) fun v8 =>
  K' (FG 124 d [(84, v8), (83, v7), (82, v6), (81, v4), (80, v3), (79, v2), (78, v1)]) H5 := by kernel_rfl
theorem s23_34 : o23 0 call [1,1,1,1,0,0,0,1,0,1,1,1,1,0,1,0,0,1,1,0] 0 (FG 124 d [(84, v8), (83, v7), (82, v6), (81, v4), (80, v3), (79, v2), (78, v1)]) H5 K' =
  onV (oFieldAddr Tryd.prog 55 (d 2) 3) fun v9 =>
  onH (gStore Tryd.prog 28 v9 (.int .i64 4) H5) fun H10 =>
  K' (FG 124 d [(85, v9), (84, v8), (83, v7), (82, v6), (81, v4), (80, v3), (79, v2), (78, v1)]) H10 := by kernel_rfl
theorem s23_35 : o23 0 call [1,1,1,1,0,0,0,1,0,1,1,1,1,0,1,0,1,0] 0 (FG 124 d [(85, v9), (84, v8), (83, v7), (82, v6), (81, v4), (80, v3), (79, v2), (78, v1)]) H10 K' =
  onV (gLoad Tryd.prog 55 (d 2) H10) fun v11 =>
  onH (gStore Tryd.prog 55 (d 2) v11 H10) fun H12 =>
  K' (FG 124 d [(86, v11), (85, v9), (84, v8), (83, v7), (82, v6), (81, v4), (80, v3), (79, v2), (78, v1)]) H12 := by kernel_rfl
theorem s23_36 : o23 0 call [1,1,1,1,0,0,0,1,0,1,1,1,1,0,1,0,1,0] 0 (FG 124 d [(84, v8), (83, v7), (82, v6), (81, v4), (80, v3), (79, v2), (78, v1)]) H5 K' =
  onV (gLoad Tryd.prog 55 (d 2) H5) fun v13 =>
  onH (gStore Tryd.prog 55 (d 2) v13 H5) fun H14 =>
  K' (FG 124 d [(86, v13), (84, v8), (83, v7), (82, v6), (81, v4), (80, v3), (79, v2), (78, v1)]) H14 := by kernel_rfl
theorem s23_37 : o23 0 call [1,1,1,1,0,0,0,1,0,1,1,1,1,1,1,0,0] 0 (FG 124 d [(123, undef), (122, undef), (90, undef)]) H K' =
  onV (oSlice Tryd.prog 24 (d 5) (some (.int .i64 1)) none none) fun v1 =>
  onCall 0 call (.func (.func 31) #[] #[]) [v1, (.int .i64 3)] H fun v2 H3 =>
  K' (FG 124 d [(89, v2), (88, v1), (87, (d 5)), (123, undef), (122, undef), (90, undef)]) H3 := by kernel_rfl
theorem s23_38 : o23 0 call [1,1,1,1,0,0,0,1,0,1,1,1,1,1,1,0,1,0,0] 0 (FF 124 d) H K' =
  K' (FG 124 d [(10, (d 90))]) H := by kernel_rfl
theorem s23_39 : o23 0 call [1,1,1,1,0,0,0,1,0,1,1,1,1,1,1,0,1,0,1,0,0] 0 (FG 124 d [(10, (d 90))]) H1 K' =
  onCall 0 call (.func (.func 32) #[] #[]) [(d 90)] H1 fun v2 H3 =>
  onH (gStore Tryd.prog 48 (.pointer (some ⟨H3.n, 0, none⟩)) v2 (GH.push H3 (.row [(.int .u8 0), (.int .u8 0), (.int .u8 0), (.int .i64 0), (.int .u8 0), (.int .i64 0)] 48 false))) fun H4 =>
  K' (FG 124 d [(11, (.pointer (some ⟨H3.n, 0, none⟩))), (92, v2), (91, (d 90)), (10, (d 90))]) H4 := by kernel_rfl
theorem s23_40 : o23 0 call [1,1,1,1,0,0,0,1,0,1,1,1,1,1,1,1,0,0] 0 (FG 124 d [(123, undef), (122, undef), (90, undef)]) H K' =
  onV (oFieldAddr Tryd.prog 55 (d 2) 0) fun v1 =>
  onV (gLoad Tryd.prog 26 v1 H) fun v2 =>
  onV (oLen Tryd.prog 26 v2) fun v3 =>
  onV ((oBin Tryd.prog .add 3 v3 (d 4)).filter closed) fun v4 =>
  onV ((oBin Tryd.prog .gtr 3 v4 (.int .i64 4096)).filter closed) fun v5 =>
  K' (FG 124 d [(114, v5), (113, v4), (112, (d 4)), (111, v3), (110, v2), (109, v1), (123, undef), (122, undef), (90, undef)]) H := by kernel_rfl
theorem s23_41 : o23 0 call [1,1,1,1,0,0,0,1,0,1,1,1,1,1,1,1,0,1,0,0] 0 (FG 124 d [(114, v5), (113, v4), (112, (d 4)), (111, v3), (110, v2), (109, v1), (123, undef), (122, undef), (90, undef)]) H K' =
  onV (oFieldAddr Tryd.prog 55 (d 2) 3) fun v6 =>
  onH (gStore Tryd.prog 28 v6 (.int .i64 3) H) fun H7 =>
  K' (FG 124 d [(115, v6), (114, v5), (113, v4), (112, (d 4)), (111, v3), (110, v2), (109, v1), (123, undef), (122, undef), (90, undef)]) H7 := by kernel_rfl
theorem s23_42 : o23 0 call [1,1,1,1,0,0,0,1,0,1,1,1,1,1,1,1,0,1,0,1,0] 0 (FG 124 d [(115, v6), (114, v5), (113, v4), (112, (d 4)), (111, v3), (110, v2), (109, v1), (123, undef), (122, undef), (90, undef)]) H7 K' =
  onV (gLoad Tryd.prog 55 (d 2) H7) fun v8 =>
  onH (gStore Tryd.prog 55 (d 2) v8 H7) fun H9 =>
  K' (FG 124 d [(116, v8), (115, v6), (114, v5), (113, v4), (112, (d 4)), (111, v3), (110, v2), (109, v1), (123, undef), (122, undef), (90, undef)]) H9 := by kernel_rfl
theorem s23_43 : o23 0 call [1,1,1,1,0,0,0,1,0,1,1,1,1,1,1,1,1] 0 (FG 124 d [(114, v5), (113, v4), (112, (d 4)), (111, v3), (110, v2), (109, v1), (123, undef), (122, undef), (90, undef)]) H K' =
  onV (oFieldAddr Tryd.prog 55 (d 2) 0) fun v10 =>
  onV (gLoad Tryd.prog 26 v10 H) fun v11 =>
  onV (gLoad Tryd.prog 26 (d 9) H) fun v12 =>
  onVH (gAppend Tryd.prog 26 26 v11 v12 H) fun v13 H14 =>
  onV (oFieldAddr Tryd.prog 55 (d 2) 0) fun v15 =>
  onH (gStore Tryd.prog 26 v15 v13 H14) fun H16 =>
  K' (FG 124 d [(121, v15), (120, v13), (119, v12), (118, v11), (117, v10), (114, v5), (113, v4), (112, (d 4)), (111, v3), (110, v2), (109, v1), (123, undef), (122, undef), (90, undef)]) H16 := by kernel_rfl
theorem s23_44 : t23 0 call [1,1,1,1,0,0,0,1,0,1,1,1,1,1,1,0,1,0,1,0,1,0,0] 0 4 (FF 124 d) H K' =
  onV (gLoad Tryd.prog 48 (d 11) H) fun v1 =>
  onCall 0 call (.func (.func 25) #[] #[]) [v1] H fun v2 H3 =>
  onV ((oBin Tryd.prog .neq 28 v2 (.int .i64 0)).filter closed) fun v4 =>
  onGrd true v4 (K' (FG 124 d [(96, v4), (95, v4), (94, v2), (93, v1)]) H3) := by kernel_rfl
theorem s23_45 : o23 0 call [1,1,1,1,0,0,0,1,0,1,1,1,1,1,1,0,1,0,1,0,1,0,0] 4 (FG 124 d [(96, (.bool true))]) H K' =
  K' (FG 124 d [(102, (.bool true)), (101, undef), (100, undef), (99, undef), (98, undef), (97, undef), (96, (.bool true))]) H := by kernel_rfl
theorem s23_46 : o23 0 call [1,1,1,1,0,0,0,1,0,1,1,1,1,1,1,0,1,0,1,0,1,0,1,0,0] 0 (FG 124 d [(102, (.bool true)), (101, undef), (100, undef), (99, undef), (98, undef), (97, undef), (96, (.bool true))]) H K' =
  onV (oFieldAddr Tryd.prog 55 (d 2) 3) fun v1 =>
  onH (gStore Tryd.prog 28 v1 (.int .i64 4) H) fun H2 =>
  K' (FG 124 d [(103, v1), (102, (.bool true)), (101, undef), (100, undef), (99, undef), (98, undef), (97, undef), (96, (.bool true))]) H2 := by kernel_rfl
theorem s23_47 : o23 0 call [1,1,1,1,0,0,0,1,0,1,1,1,1,1,1,0,1,0,1,0,1,0,1,0,1,0] 0 (FG 124 d [(103, v1), (102, (.bool true)), (101, undef), (100, undef), (99, undef), (98, undef), (97, undef), (96, (.bool true))]) H2 K' =
  onV (gLoad Tryd.prog 55 (d 2) H2) fun v3 =>
  onH (gStore Tryd.prog 55 (d 2) v3 H2) fun H4 =>
  K' (FG 124 d [(104, v3), (103, v1), (102, (.bool true)), (101, undef), (100, undef), (99, undef), (98, undef), (97, undef), (96, (.bool true))]) H4 := by kernel_rfl
theorem s23_48 : o23 0 call [1,1,1,1,0,0,0,1,0,1,1,1,1,1,1,0,1,0,1,0,1,0,0] 4 (FG 124 d [(96, (.bool false))]) H K' =
  onV (gLoad Tryd.prog 48 (d 11) H) fun v1 =>
  onCall 0 call (.func (.func 27) #[] #[]) [v1] H fun v2 H3 =>
  onCall 0 call (.func (.func 29) #[] #[]) [v2, (d 10)] H3 fun v4 H5 =>
  onV ((oUn Tryd.prog .not v4).filter closed) fun v6 =>
  K' (FG 124 d [(102, v6), (101, v6), (100, v4), (99, (d 10)), (98, v2), (97, v1), (96, (.bool false))]) H5 := by kernel_rfl
theorem s23_49 : o23 0 call [1,1,1,1,0,0,0,1,0,1,1,1,1,1,1,0,1,0,1,0,1,0,1,0,0] 0 (FG 124 d [(102, v6), (101, v6), (100, v4), (99, (d 10)), (98, v2), (97, v1), (96, (.bool false))]) H5 K' =
  onV (oFieldAddr Tryd.prog 55 (d 2) 3) fun v7 =>
  onH (gStore Tryd.prog 28 v7 (.int .i64 4) H5) fun H8 =>
  K' (FG 124 d [(103, v7), (102, v6), (101, v6), (100, v4), (99, (d 10)), (98, v2), (97, v1), (96, (.bool false))]) H8 := by kernel_rfl
theorem s23_50 : o23 0 call [1,1,1,1,0,0,0,1,0,1,1,1,1,1,1,0,1,0,1,0,1,0,1,0,1,0] 0 (FG 124 d [(103, v7), (102, v6), (101, v6), (100, v4), (99, (d 10)), (98, v2), (97, v1), (96, (.bool false))]) H8 K' =
  onV (gLoad Tryd.prog 55 (d 2) H8) fun v9 =>
  onH (gStore Tryd.prog 55 (d 2) v9 H8) fun H10 =>
  K' (FG 124 d [(104, v9), (103, v7), (102, v6), (101, v6), (100, v4), (99, (d 10)), (98, v2), (97, v1), (96, (.bool false))]) H10 := by kernel_rfl
theorem s23_51 : o23 0 call [1,1,1,1,0,0,0,1,0,1,1,1,1,1,1,0,1,0,1,0,1,1] 0 (FG 124 d [(102, v6), (101, v6), (100, v4), (99, (d 10)), (98, v2), (97, v1), (96, (.bool false))]) H5 K' =
  onV (gLoad Tryd.prog 26 (d 9) H5) fun v11 =>
  onV (gLoad Tryd.prog 48 (d 11) H5) fun v12 =>
  onVH (gBuildSlice Tryd.prog 26 1 [(0, v12)] H5) fun v13 H14 =>
  onVH (gAppend Tryd.prog 26 26 v11 v13 H14) fun v15 H16 =>
  onH (gStore Tryd.prog 26 (d 9) v15 H16) fun H17 =>
  K' (FG 124 d [(108, v15), (107, v13), (106, v12), (105, v11), (102, v6), (101, v6), (100, v4), (99, (d 10)), (98, v2), (97, v1), (96, (.bool false))]) H17 := by kernel_rfl
def f23_l6_P (ag : AG) (sg : Sg65) : Prop := ∀ (d : Nat → Value) (H : GH), ag (FG 124 d [(123, undef), (122, undef), (90, undef)]) H = sg (d 0) (d 1) (d 2) (d 3) (d 10) (d 11) (d 12) (d 13) (d 14) (d 15) (d 16) (d 17) (d 18) (d 19) (d 20) (d 21) (d 22) (d 23) (d 24) (d 25) (d 26) (d 58) (d 59) (d 74) (d 75) (d 78) (d 79) (d 80) (d 81) (d 82) (d 83) (d 84) (d 85) (d 86) (d 91) (d 92) (d 93) (d 94) (d 95) (d 96) (d 97) (d 98) (d 99) (d 100) (d 101) (d 102) (d 103) (d 104) (d 105) (d 106) (d 107) (d 108) (d 109) (d 110) (d 111) (d 112) (d 113) (d 114) (d 115) (d 116) (d 117) (d 118) (d 119) (d 120) (d 121) H
theorem f23_l6_at {ag : AG} {sg : Sg65} (h : f23_l6_P ag sg) : ag (FG 124 d [(123, undef), (122, undef), (90, undef)]) H = sg (d 0) (d 1) (d 2) (d 3) (d 10) (d 11) (d 12) (d 13) (d 14) (d 15) (d 16) (d 17) (d 18) (d 19) (d 20) (d 21) (d 22) (d 23) (d 24) (d 25) (d 26) (d 58) (d 59) (d 74) (d 75) (d 78) (d 79) (d 80) (d 81) (d 82) (d 83) (d 84) (d 85) (d 86) (d 91) (d 92) (d 93) (d 94) (d 95) (d 96) (d 97) (d 98) (d 99) (d 100) (d 101) (d 102) (d 103) (d 104) (d 105) (d 106) (d 107) (d 108) (d 109) (d 110) (d 111) (d 112) (d 113) (d 114) (d 115) (d 116) (d 117) (d 118) (d 119) (d 120) (d 121) H := h d H
noncomputable def f23_r15 (call : Handle) (k : Nat) (sg_l6 : Sg65) (x2 : Value) (H : GH) : M (Value × GH) :=
  onV (gLoad Tryd.prog 55 x2 H) fun v1 =>
  onH (gStore Tryd.prog 55 x2 v1 H) fun H2 =>
  onV (gResL Tryd.prog H2 [(x2, some 55)]) fun v => some [(v, H2)]
theorem f23_r15_eq (call : Handle) (k : Nat) (ag_l6 : AG) (sg_l6 : Sg65) (h_l6 : f23_l6_P ag_l6 sg_l6) : g23 call k [1,1,1,1,0,0,0,1,0,1,1,1,0,0,1,1,1,0,1,0] (FF 124 d) H (hSeq (g23 call k [1,1,1,1,0,0,0,1,0,1,1,1,0,0,1,1,1,0,1,1]) (hBlock 2 (hSeq (g23 call k [1,1,1,1,0,0,0,1,0,1,1,1,1]) (hBlock 1 (hLoop ag_l6 (hBlock 0 (hSeq (g23 call k [1,1,1,1,1]) (hFin Tryd.prog Tryd.f23)))))))) = f23_r15 call k sg_l6 (d 2) H := by
  unfold f23_r15
  rw [n23_65]
  rw [s23_31]
  refine onV_c fun v1 => ?_
  refine onH_c fun H2 => ?_
  rw [hSeq_n]
  rw [n23_66]
  rw [hBlock_r, hSeq_r, hBlock_r, hLoop_r, hBlock_r, hSeq_r]
  kernel_rfl
noncomputable def f23_r17 (call : Handle) (k : Nat) (sg_l6 : Sg65) (x1 x2 : Value) (H : GH) : M (Value × GH) :=
  onV (gLoad Tryd.prog 24 x1 H) fun v1 =>
  onV (oLen Tryd.prog 24 v1) fun v2 =>
  onV ((oBin Tryd.prog .eql 3 v2 (.int .i64 0)).filter closed) fun v3 =>
  onV (oFieldAddr Tryd.prog 55 x2 2) fun v4 =>
  onH (gStore Tryd.prog 4 v4 v3 H) fun H5 =>
  onV (oFieldAddr Tryd.prog 55 x2 2) fun v6 =>
  onV (gLoad Tryd.prog 4 v6 H5) fun v7 =>
  onV ((oUn Tryd.prog .not v7).filter closed) fun v8 =>
  onBool (asB v8)
  (onV (oFieldAddr Tryd.prog 55 x2 3) fun v9 =>
  onH (gStore Tryd.prog 28 v9 (.int .i64 4) H5) fun H10 =>
  onV (gLoad Tryd.prog 55 x2 H10) fun v11 =>
  onH (gStore Tryd.prog 55 x2 v11 H10) fun H12 =>
  onV (gResL Tryd.prog H12 [(x2, some 55)]) fun v => some [(v, H12)])
  (onV (gLoad Tryd.prog 55 x2 H5) fun v13 =>
  onH (gStore Tryd.prog 55 x2 v13 H5) fun H14 =>
  onV (gResL Tryd.prog H14 [(x2, some 55)]) fun v => some [(v, H14)])
theorem f23_r17_eq (call : Handle) (k : Nat) (ag_l6 : AG) (sg_l6 : Sg65) (h_l6 : f23_l6_P ag_l6 sg_l6) : g23 call k [1,1,1,1,0,0,0,1,0,1,1,1,1,0,1,0,0,0] (FF 124 d) H (hSeq (g23 call k [1,1,1,1,0,0,0,1,0,1,1,1,1,0,1,0,0,1]) (hSeq (g23 call k [1,1,1,1,0,0,0,1,0,1,1,1,1,0,1,0,1]) (hSeq (g23 call k [1,1,1,1,0,0,0,1,0,1,1,1,1,1]) (hBlock 1 (hLoop ag_l6 (hBlock 0 (hSeq (g23 call k [1,1,1,1,1]) (hFin Tryd.prog Tryd.f23)))))))) = f23_r17 call k sg_l6 (d 1) (d 2) H := by
  unfold f23_r17
  rw [n23_67]
  rw [s23_32]
  refine onV_c fun v1 => ?_
  refine onV_c fun v2 => ?_
  refine onV_c fun v3 => ?_
  refine onV_c fun v4 => ?_
  refine onH_c fun H5 => ?_
  rw [hSeq_n]
  rw [n23_68]
  rw [n23_69]
  rw [s23_33]
  refine onV_c fun v6 => ?_
  refine onV_c fun v7 => ?_
  refine onV_c fun v8 => ?_
  rw [hSeq_n]
  rw [n23_70]
  refine onBool_cc (by kernel_rfl) ?_ ?_
  · rw [n23_71]
    rw [s23_34]
    refine onV_c fun v9 => ?_
    refine onH_c fun H10 => ?_
    rw [hSeq_n]
    rw [n23_72]
    rw [n23_73]
    rw [s23_35]
    refine onV_c fun v11 => ?_
    refine onH_c fun H12 => ?_
    rw [hSeq_n]
    rw [n23_74]
    rw [hSeq_r, hBlock_r, hLoop_r, hBlock_r, hSeq_r]
    kernel_rfl
  · rw [n23_75]
    rw [hSeq_n]
    rw [n23_72]
    rw [n23_73]
    rw [s23_36]
    refine onV_c fun v13 => ?_
    refine onH_c fun H14 => ?_
    rw [hSeq_n]
    rw [n23_74]
    rw [hSeq_r, hBlock_r, hLoop_r, hBlock_r, hSeq_r]
    kernel_rfl
noncomputable def f23_r29 (call : Handle) (k : Nat) (sg_l6 : Sg65) (x0 x1 x2 x3 x4 x9 x10 x11 x12 x13 x14 x15 x16 x17 x18 x19 x20 x21 x22 x23 x24 x25 x26 x58 x59 x74 x75 x78 x79 x80 x81 x82 x83 x84 x85 x86 x91 x92 x93 x94 x95 x96 x97 x98 x99 x100 x101 x102 x103 x104 x105 x106 x107 x108 x115 x116 : Value) (H : GH) : M (Value × GH) :=
  onV (oFieldAddr Tryd.prog 55 x2 0) fun v1 =>
  onV (gLoad Tryd.prog 26 v1 H) fun v2 =>
  onV (oLen Tryd.prog 26 v2) fun v3 =>
  onV ((oBin Tryd.prog .add 3 v3 x4).filter closed) fun v4 =>
  onV ((oBin Tryd.prog .gtr 3 v4 (.int .i64 4096)).filter closed) fun v5 =>
  onBool (asB v5)
  (onV (oFieldAddr Tryd.prog 55 x2 3) fun v6 =>
  onH (gStore Tryd.prog 28 v6 (.int .i64 3) H) fun H7 =>
  onV (gLoad Tryd.prog 55 x2 H7) fun v8 =>
  onH (gStore Tryd.prog 55 x2 v8 H7) fun H9 =>
  onV (gResL Tryd.prog H9 [(x2, some 55)]) fun v => some [(v, H9)])
  (onV (oFieldAddr Tryd.prog 55 x2 0) fun v10 =>
  onV (gLoad Tryd.prog 26 v10 H) fun v11 =>
  onV (gLoad Tryd.prog 26 x9 H) fun v12 =>
  onVH (gAppend Tryd.prog 26 26 v11 v12 H) fun v13 H14 =>
  onV (oFieldAddr Tryd.prog 55 x2 0) fun v15 =>
  onH (gStore Tryd.prog 26 v15 v13 H14) fun H16 =>
  (sg_l6 x0 x1 x2 x3 x10 x11 x12 x13 x14 x15 x16 x17 x18 x19 x20 x21 x22 x23 x24 x25 x26 x58 x59 x74 x75 x78 x79 x80 x81 x82 x83 x84 x85 x86 x91 x92 x93 x94 x95 x96 x97 x98 x99 x100 x101 x102 x103 x104 x105 x106 x107 x108 v1 v2 v3 x4 v4 v5 x115 x116 v10 v11 v12 v13 v15 H16))
theorem f23_r29_eq (call : Handle) (k : Nat) (ag_l6 : AG) (sg_l6 : Sg65) (h_l6 : f23_l6_P ag_l6 sg_l6) : g23 call k [1,1,1,1,0,0,0,1,0,1,1,1,1,1,1,1] (FG 124 d [(123, undef), (122, undef), (90, undef)]) H (hBlock 1 (hLoop ag_l6 (hBlock 0 (hSeq (g23 call k [1,1,1,1,1]) (hFin Tryd.prog Tryd.f23))))) = f23_r29 call k sg_l6 (d 0) (d 1) (d 2) (d 3) (d 4) (d 9) (d 10) (d 11) (d 12) (d 13) (d 14) (d 15) (d 16) (d 17) (d 18) (d 19) (d 20) (d 21) (d 22) (d 23) (d 24) (d 25) (d 26) (d 58) (d 59) (d 74) (d 75) (d 78) (d 79) (d 80) (d 81) (d 82) (d 83) (d 84) (d 85) (d 86) (d 91) (d 92) (d 93) (d 94) (d 95) (d 96) (d 97) (d 98) (d 99) (d 100) (d 101) (d 102) (d 103) (d 104) (d 105) (d 106) (d 107) (d 108) (d 115) (d 116) H := by
  unfold f23_r29
  rw [n23_85]
  rw [n23_86]
  rw [n23_87]
  rw [s23_40]
  refine onV_c fun v1 => ?_
  refine onV_c fun v2 => ?_
  refine onV_c fun v3 => ?_
  refine onV_c fun v4 => ?_
  refine onV_c fun v5 => ?_
  rw [hSeq_n]
  rw [n23_88]
  refine onBool_cc (by kernel_rfl) ?_ ?_
  · rw [n23_89]
    rw [n23_90]
    rw [s23_41]
    refine onV_c fun v6 => ?_
    refine onH_c fun H7 => ?_
    rw [hSeq_n]
    rw [n23_91]
    rw [n23_92]
    rw [s23_42]
    refine onV_c fun v8 => ?_
    refine onH_c fun H9 => ?_
    rw [hSeq_n]
    rw [n23_93]
    rw [hSeq_r, hBlock_r, hLoop_r, hBlock_r, hSeq_r]
    kernel_rfl
  · rw [n23_94]
    rw [hSeq_n]
    rw [n23_95]
    rw [s23_43]
    refine onV_c fun v10 => ?_
    refine onV_c fun v11 => ?_
    refine onV_c fun v12 => ?_
    refine onVH_c fun v13 H14 => ?_
    refine onV_c fun v15 => ?_
    refine onH_c fun H16 => ?_
    rw [hBlock_n]
    rw [hLoop_n]
    generalize e : (FG 124 d [(121, v15), (120, v13), (119, v12), (118, v11), (117, v10), (114, v5), (113, v4), (112, (d 4)), (111, v3), (110, v2), (109, v1), (123, undef), (122, undef), (90, undef)]) = a
    rw [show a = (FG 124 (gf a) [(123, undef), (122, undef), (90, undef)]) from (FG_eq (by subst e; exact FG_len) (FS_cons (by subst e; kernel_rfl) (FS_cons (by subst e; kernel_rfl) (FS_cons (by subst e; kernel_rfl) (FS_nil))))).symm]
    exact (f23_l6_at (d := gf a) h_l6).trans (by subst e; kernel_rfl)
noncomputable def f23_r33 (call : Handle) (k : Nat) (x2 : Value) (H : GH) : M (Value × GH) :=
  onV (oFieldAddr Tryd.prog 55 x2 1) fun v1 =>
  onH (gStore Tryd.prog 4 v1 (.bool true) H) fun H2 =>
  onV (gLoad Tryd.prog 55 x2 H2) fun v3 =>
  onH (gStore Tryd.prog 55 x2 v3 H2) fun H4 =>
  onV (gResL Tryd.prog H4 [(x2, some 55)]) fun v => some [(v, H4)]
theorem f23_r33_eq (call : Handle) (k : Nat) : g23 call k [1,1,1,1,1] (FF 124 d) H (hFin Tryd.prog Tryd.f23) = f23_r33 call k (d 2) H := by
  unfold f23_r33
  rw [n23_35]
  rw [n23_36]
  rw [s23_14]
  refine onV_c fun v1 => ?_
  refine onH_c fun H2 => ?_
  rw [hSeq_n]
  rw [n23_37]
  rw [n23_38]
  rw [s23_15]
  refine onV_c fun v3 => ?_
  refine onH_c fun H4 => ?_
  rw [hSeq_n]
  rw [n23_39]
  kernel_rfl
noncomputable def f23_r22 (call : Handle) (k : Nat) (sg_l6 : Sg65) (x0 x1 x2 x3 x4 x5 x6 x7 x8 x9 x10 x11 x12 x13 x14 x15 x16 x17 x18 x19 x20 x21 x22 x23 x24 x25 x26 x27 x28 x29 x30 x31 x32 x33 x34 x35 x36 x37 x38 x39 x40 x41 x42 x43 x44 x45 x46 x47 x48 x49 x50 x51 x52 x53 x54 x55 x56 x57 x58 x59 x60 x61 x62 x63 x64 x65 x66 x67 x68 x69 x70 x71 x72 x73 x74 x75 x76 x77 x78 x79 x80 x81 x82 x83 x84 x85 x86 x91 x92 x93 x94 x95 x96 x97 x98 x99 x100 x101 x102 x103 x104 x105 x106 x107 x108 x109 x110 x111 x112 x113 x114 x115 x116 x117 x118 x119 x120 x121 : Value) (H : GH) : M (Value × GH) :=
  onV (oSlice Tryd.prog 24 x5 (some (.int .i64 1)) none none) fun v1 =>
  onCall 0 call (.func (.func 31) #[] #[]) [v1, (.int .i64 3)] H fun v2 H3 =>
  onFunc v2 fun g => bindM (call g [.func (.yield H3.n) #[] #[]] (GH.push H3 (.loop .ready none [x0, x1, x2, x3, x4, x5, x6, x7, x8, x9, x10, x11, x12, x13, x14, x15, x16, x17, x18, x19, x20, x21, x22, x23, x24, x25, x26, x27, x28, x29, x30, x31, x32, x33, x34, x35, x36, x37, x38, x39, x40, x41, x42, x43, x44, x45, x46, x47, x48, x49, x50, x51, x52, x53, x54, x55, x56, x57, x58, x59, x60, x61, x62, x63, x64, x65, x66, x67, x68, x69, x70, x71, x72, x73, x74, x75, x76, x77, x78, x79, x80, x81, x82, x83, x84, x85, x86, x5, v1, v2, undef, x91, x92, x93, x94, x95, x96, x97, x98, x99, x100, x101, x102, x103, x104, x105, x106, x107, x108, x109, x110, x111, x112, x113, x114, x115, x116, x117, x118, x119, x120, x121, undef, undef] [90] (fAt Tryd.f23 [1,1,1,1,0,0,0,1,0,1,1,1,1,1,1,0,1,0,0]) (fAt Tryd.f23 [1,1,1,1,0,0,0,1,0,1,1,1,1,1,1,0,1,0,1])))) fun x =>
 onEnd H3.n x.2
  (fun H4 => (f23_r29 call k (sg_l6) x0 x1 x2 x3 x4 x9 x10 x11 x12 x13 x14 x15 x16 x17 x18 x19 x20 x21 x22 x23 x24 x25 x26 x58 x59 x74 x75 x78 x79 x80 x81 x82 x83 x84 x85 x86 x91 x92 x93 x94 x95 x96 x97 x98 x99 x100 x101 x102 x103 x104 x105 x106 x107 x108 x115 x116 H4))
  (fun H4 => onV (gResL Tryd.prog H4 [(x2, some 55)]) fun v => some [(v, H4)])
  (fun i5 H4 => if i5 = 3 then ((f23_r29 call k (sg_l6) x0 x1 x2 x3 x4 x9 x10 x11 x12 x13 x14 x15 x16 x17 x18 x19 x20 x21 x22 x23 x24 x25 x26 x58 x59 x74 x75 x78 x79 x80 x81 x82 x83 x84 x85 x86 x91 x92 x93 x94 x95 x96 x97 x98 x99 x100 x101 x102 x103 x104 x105 x106 x107 x108 x115 x116 H4)) else (if i5 = 1 then ((sg_l6 x0 x1 x2 x3 x10 x11 x12 x13 x14 x15 x16 x17 x18 x19 x20 x21 x22 x23 x24 x25 x26 x58 x59 x74 x75 x78 x79 x80 x81 x82 x83 x84 x85 x86 x91 x92 x93 x94 x95 x96 x97 x98 x99 x100 x101 x102 x103 x104 x105 x106 x107 x108 x109 x110 x111 x112 x113 x114 x115 x116 x117 x118 x119 x120 x121 H4)) else (if i5 = 0 then ((f23_r33 call k x2 H4)) else (none))))
theorem f23_r22_eq (call : Handle) (k : Nat) (ag_l6 : AG) (sg_l6 : Sg65) (h_l6 : f23_l6_P ag_l6 sg_l6) : g23 call k [1,1,1,1,0,0,0,1,0,1,1,1,1,1,1,0,0] (FG 124 d [(123, undef), (122, undef), (90, undef)]) H (hSeq (g23 call k [1,1,1,1,0,0,0,1,0,1,1,1,1,1,1,0,1]) (hSeq (g23 call k [1,1,1,1,0,0,0,1,0,1,1,1,1,1,1,1]) (hBlock 1 (hLoop ag_l6 (hBlock 0 (hSeq (g23 call k [1,1,1,1,1]) (hFin Tryd.prog Tryd.f23))))))) = f23_r22 call k sg_l6 (d 0) (d 1) (d 2) (d 3) (d 4) (d 5) (d 6) (d 7) (d 8) (d 9) (d 10) (d 11) (d 12) (d 13) (d 14) (d 15) (d 16) (d 17) (d 18) (d 19) (d 20) (d 21) (d 22) (d 23) (d 24) (d 25) (d 26) (d 27) (d 28) (d 29) (d 30) (d 31) (d 32) (d 33) (d 34) (d 35) (d 36) (d 37) (d 38) (d 39) (d 40) (d 41) (d 42) (d 43) (d 44) (d 45) (d 46) (d 47) (d 48) (d 49) (d 50) (d 51) (d 52) (d 53) (d 54) (d 55) (d 56) (d 57) (d 58) (d 59) (d 60) (d 61) (d 62) (d 63) (d 64) (d 65) (d 66) (d 67) (d 68) (d 69) (d 70) (d 71) (d 72) (d 73) (d 74) (d 75) (d 76) (d 77) (d 78) (d 79) (d 80) (d 81) (d 82) (d 83) (d 84) (d 85) (d 86) (d 91) (d 92) (d 93) (d 94) (d 95) (d 96) (d 97) (d 98) (d 99) (d 100) (d 101) (d 102) (d 103) (d 104) (d 105) (d 106) (d 107) (d 108) (d 109) (d 110) (d 111) (d 112) (d 113) (d 114) (d 115) (d 116) (d 117) (d 118) (d 119) (d 120) (d 121) H := by
  unfold f23_r22
  rw [n23_76]
  rw [s23_37]
  refine onV_c fun v1 => ?_
  refine onCall_c fun v2 H3 => ?_
  rw [hSeq_n]
  rw [n23_77]
  rw [n23_78]
  refine onRange_cf (by kernel_rfl) (by kernel_rfl) fun z => ?_
  refine onEnd_c (fun H4 => ?_) (fun H4 => ?_) (fun i5 H4 => ?_)
  · rw [hBlock_n]
    rw [hSeq_n]
    generalize e : (FG 124 d [(89, v2), (88, v1), (87, (d 5)), (123, undef), (122, undef), (90, undef)]) = a
    rw [show a = (FG 124 (gf a) [(123, undef), (122, undef), (90, undef)]) from (FG_eq (by subst e; exact FG_len) (FS_cons (by subst e; kernel_rfl) (FS_cons (by subst e; kernel_rfl) (FS_cons (by subst e; kernel_rfl) (FS_nil))))).symm]
    exact (f23_r29_eq (d := gf a) call k ag_l6 sg_l6 h_l6).trans (by subst e; kernel_rfl)
  · rw [hBlock_r, hSeq_r, hBlock_r, hLoop_r, hBlock_r, hSeq_r]
    kernel_rfl
  · rw [hBlock_e]
    refine ite_c ?_ ?_
    · rw [hSeq_n]
      generalize e : (FG 124 d [(89, v2), (88, v1), (87, (d 5)), (123, undef), (122, undef), (90, undef)]) = a
      rw [show a = (FG 124 (gf a) [(123, undef), (122, undef), (90, undef)]) from (FG_eq (by subst e; exact FG_len) (FS_cons (by subst e; kernel_rfl) (FS_cons (by subst e; kernel_rfl) (FS_cons (by subst e; kernel_rfl) (FS_nil))))).symm]
      exact (f23_r29_eq (d := gf a) call k ag_l6 sg_l6 h_l6).trans (by subst e; kernel_rfl)
    · rw [hSeq_e, hBlock_e]
      refine ite_c ?_ ?_
      · rw [hLoop_n]
        generalize e : (FG 124 d [(89, v2), (88, v1), (87, (d 5)), (123, undef), (122, undef), (90, undef)]) = a
        rw [show a = (FG 124 (gf a) [(123, undef), (122, undef), (90, undef)]) from (FG_eq (by subst e; exact FG_len) (FS_cons (by subst e; kernel_rfl) (FS_cons (by subst e; kernel_rfl) (FS_cons (by subst e; kernel_rfl) (FS_nil))))).symm]
        exact (f23_l6_at (d := gf a) h_l6).trans (by subst e; kernel_rfl)
      · rw [hLoop_e, hBlock_e]
        refine ite_c ?_ ?_
        · rw [hSeq_n]
          generalize e : (FG 124 d [(89, v2), (88, v1), (87, (d 5)), (123, undef), (122, undef), (90, undef)]) = a
          rw [show a = (FF 124 (gf a)) from (FF_gf (by subst e; exact FG_len)).symm]
          exact (f23_r33_eq (d := gf a) call k).trans (by subst e; kernel_rfl)
        · rw [hSeq_e]
          exact hFin_e
noncomputable def f23_r13 (call : Handle) (k : Nat) (sg_l6 : Sg65) (x0 x1 x2 x3 x4 x5 x6 x7 x8 x10 x11 x12 x13 x14 x15 x16 x17 x18 x19 x20 x21 x22 x23 x24 x25 x26 x27 x28 x29 x30 x31 x32 x33 x34 x35 x36 x37 x38 x39 x40 x41 x42 x43 x44 x45 x46 x47 x48 x49 x50 x51 x52 x53 x54 x55 x56 x57 x58 x59 x74 x75 x78 x79 x80 x81 x82 x83 x84 x85 x86 x91 x92 x93 x94 x95 x96 x97 x98 x99 x100 x101 x102 x103 x104 x105 x106 x107 x108 x109 x110 x111 x112 x113 x114 x115 x116 x117 x118 x119 x120 x121 : Value) (H : GH) : M (Value × GH) :=
  onCall 2 call (.func (.func 12) #[] #[]) [x5] H fun v1 H2 =>
  onV (oIndexAddr Tryd.prog 24 x7 (.int .i64 0)) fun v3 =>
  onV (gLoad Tryd.prog 5 v3 H2) fun v4 =>
  onV ((oConvert Tryd.prog 5 40 v4).filter closed) fun v5 =>
  onV ((oBin Tryd.prog .shl 40 v5 (.int .u64 8)).filter closed) fun v6 =>
  onV (oIndexAddr Tryd.prog 24 x7 (.int .i64 1)) fun v7 =>
  onV (gLoad Tryd.prog 5 v7 H2) fun v8 =>
  onV ((oConvert Tryd.prog 5 40 v8).filter closed) fun v9 =>
  onV ((oBin Tryd.prog .add 40 v6 v9).filter closed) fun v10 =>
  onV ((oBin Tryd.prog .neq 40 v1 v10).filter closed) fun v11 =>
  onBool (asB v11)
  (onV (oFieldAddr Tryd.prog 55 x2 3) fun v12 =>
  onH (gStore Tryd.prog 28 v12 (.int .i64 10) H2) fun H13 =>
  (f23_r15 call k (sg_l6) x2 H13))
  (onV ((oBin Tryd.prog .eql 3 x4 (.int .i64 0)).filter closed) fun v14 =>
  onBool (asB v14)
  ((f23_r17 call k (sg_l6) x1 x2 H2))
  ((f23_r22 call k (sg_l6) x0 x1 x2 x3 x4 x5 x6 x7 x8 (.pointer (some ⟨H2.n, 0, none⟩)) x10 x11 x12 x13 x14 x15 x16 x17 x18 x19 x20 x21 x22 x23 x24 x25 x26 x27 x28 x29 x30 x31 x32 x33 x34 x35 x36 x37 x38 x39 x40 x41 x42 x43 x44 x45 x46 x47 x48 x49 x50 x51 x52 x53 x54 x55 x56 x57 x58 x59 v11 x5 v1 x7 v3 v4 v5 v6 x7 v7 v8 v9 v10 v11 x74 x75 x4 v14 x78 x79 x80 x81 x82 x83 x84 x85 x86 x91 x92 x93 x94 x95 x96 x97 x98 x99 x100 x101 x102 x103 x104 x105 x106 x107 x108 x109 x110 x111 x112 x113 x114 x115 x116 x117 x118 x119 x120 x121 (GH.push H2 (.row [(.slice none 0 0)] 26 false)))))
theorem f23_r13_eq (call : Handle) (k : Nat) (ag_l6 : AG) (sg_l6 : Sg65) (h_l6 : f23_l6_P ag_l6 sg_l6) : g23 call k [1,1,1,1,0,0,0,1,0,1,1,1,0,0,1,1,0] (FG 124 d [(123, undef), (122, undef), (90, undef)]) H (hSeq (g23 call k [1,1,1,1,0,0,0,1,0,1,1,1,0,0,1,1,1]) (hBlock 2 (hSeq (g23 call k [1,1,1,1,0,0,0,1,0,1,1,1,1]) (hBlock 1 (hLoop ag_l6 (hBlock 0 (hSeq (g23 call k [1,1,1,1,1]) (hFin Tryd.prog Tryd.f23)))))))) = f23_r13 call k sg_l6 (d 0) (d 1) (d 2) (d 3) (d 4) (d 5) (d 6) (d 7) (d 8) (d 10) (d 11) (d 12) (d 13) (d 14) (d 15) (d 16) (d 17) (d 18) (d 19) (d 20) (d 21) (d 22) (d 23) (d 24) (d 25) (d 26) (d 27) (d 28) (d 29) (d 30) (d 31) (d 32) (d 33) (d 34) (d 35) (d 36) (d 37) (d 38) (d 39) (d 40) (d 41) (d 42) (d 43) (d 44) (d 45) (d 46) (d 47) (d 48) (d 49) (d 50) (d 51) (d 52) (d 53) (d 54) (d 55) (d 56) (d 57) (d 58) (d 59) (d 74) (d 75) (d 78) (d 79) (d 80) (d 81) (d 82) (d 83) (d 84) (d 85) (d 86) (d 91) (d 92) (d 93) (d 94) (d 95) (d 96) (d 97) (d 98) (d 99) (d 100) (d 101) (d 102) (d 103) (d 104) (d 105) (d 106) (d 107) (d 108) (d 109) (d 110) (d 111) (d 112) (d 113) (d 114) (d 115) (d 116) (d 117) (d 118) (d 119) (d 120) (d 121) H := by
  unfold f23_r13
  rw [n23_48]
  rw [s23_27]
  refine onCall_c fun v1 H2 => ?_
  refine onV_c fun v3 => ?_
  refine onV_c fun v4 => ?_
  refine onV_c fun v5 => ?_
  refine onV_c fun v6 => ?_
  refine onV_c fun v7 => ?_
  refine onV_c fun v8 => ?_
  refine onV_c fun v9 => ?_
  refine onV_c fun v10 => ?_
  refine onV_c fun v11 => ?_
  rw [hSeq_n]
  rw [n23_49]
  refine onBool_cc (by kernel_rfl) ?_ ?_
  · rw [n23_50]
    rw [n23_51]
    rw [s23_28]
    refine onV_c fun v12 => ?_
    refine onH_c fun H13 => ?_
    rw [hSeq_n]
    rw [n23_52]
    generalize e : (FG 124 d [(74, v12), (60, v11), (73, v11), (72, v10), (71, v9), (70, v8), (69, v7), (68, (d 7)), (67, v6), (66, v5), (65, v4), (64, v3), (63, (d 7)), (62, v1), (61, (d 5)), (123, undef), (122, undef), (90, undef)]) = a
    rw [show a = (FF 124 (gf a)) from (FF_gf (by subst e; exact FG_len)).symm]
    exact (f23_r15_eq (d := gf a) call k ag_l6 sg_l6 h_l6).trans (by subst e; kernel_rfl)
  · rw [n23_53]
    rw [hBlock_n]
    rw [hSeq_n]
    rw [n23_54]
    rw [n23_55]
    rw [n23_56]
    rw [s23_29]
    refine onV_c fun v14 => ?_
    rw [hSeq_n]
    rw [n23_57]
    refine onBool_cc (by kernel_rfl) ?_ ?_
    · rw [n23_58]
      rw [n23_59]
      generalize e : (FG 124 d [(77, v14), (76, (d 4)), (60, v11), (73, v11), (72, v10), (71, v9), (70, v8), (69, v7), (68, (d 7)), (67, v6), (66, v5), (65, v4), (64, v3), (63, (d 7)), (62, v1), (61, (d 5)), (123, undef), (122, undef), (90, undef)]) = a
      rw [show a = (FF 124 (gf a)) from (FF_gf (by subst e; exact FG_len)).symm]
      exact (f23_r17_eq (d := gf a) call k ag_l6 sg_l6 h_l6).trans (by subst e; kernel_rfl)
    · rw [n23_60]
      rw [hSeq_n]
      rw [n23_61]
      rw [n23_62]
      rw [s23_30]
      rw [hSeq_n]
      rw [n23_63]
      rw [n23_64]
      generalize e : (FG 124 d [(9, (.pointer (some ⟨H2.n, 0, none⟩))), (77, v14), (76, (d 4)), (60, v11), (73, v11), (72, v10), (71, v9), (70, v8), (69, v7), (68, (d 7)), (67, v6), (66, v5), (65, v4), (64, v3), (63, (d 7)), (62, v1), (61, (d 5)), (123, undef), (122, undef), (90, undef)]) = a
      rw [show a = (FG 124 (gf a) [(123, undef), (122, undef), (90, undef)]) from (FG_eq (by subst e; exact FG_len) (FS_cons (by subst e; kernel_rfl) (FS_cons (by subst e; kernel_rfl) (FS_cons (by subst e; kernel_rfl) (FS_nil))))).symm]
      exact (f23_r22_eq (d := gf a) call k ag_l6 sg_l6 h_l6).trans (by subst e; kernel_rfl)
noncomputable def f23_g10_7 (call : Handle) (k : Nat) (sg_l6 : Sg65) (x54 : Value) (x0 x1 x2 x3 x4 x5 x6 x7 x8 x10 x11 x12 x13 x14 x15 x16 x17 x18 x19 x20 x21 x22 x23 x24 x25 x26 x27 x28 x29 x30 x31 x32 x33 x34 x35 x36 x37 x38 x39 x40 x41 x42 x43 x44 x45 x46 x48 x49 x50 x51 x52 x53 x58 x59 x74 x75 x78 x79 x80 x81 x82 x83 x84 x85 x86 x91 x92 x93 x94 x95 x96 x97 x98 x99 x100 x101 x102 x103 x104 x105 x106 x107 x108 x109 x110 x111 x112 x113 x114 x115 x116 x117 x118 x119 x120 x121 : Value) (H : GH) : M (Value × GH) :=
 onBool (asB x54)
  (onV (oFieldAddr Tryd.prog 55 x2 3) fun v1 =>
  onH (gStore Tryd.prog 28 v1 (.int .i64 4) H) fun H2 =>
  onV (gLoad Tryd.prog 55 x2 H2) fun v3 =>
  onH (gStore Tryd.prog 55 x2 v3 H2) fun H4 =>
  onV (gResL Tryd.prog H4 [(x2, some 55)]) fun v => some [(v, H4)])
  (onV ((oUn Tryd.prog .not x8).filter closed) fun v1 =>
  onBool (asB v1)
  (onV (oFieldAddr Tryd.prog 55 x2 3) fun v2 =>
  onH (gStore Tryd.prog 28 v2 (.int .i64 4) H) fun H3 =>
  onV (gLoad Tryd.prog 55 x2 H3) fun v4 =>
  onH (gStore Tryd.prog 55 x2 v4 H3) fun H5 =>
  onV (gResL Tryd.prog H5 [(x2, some 55)]) fun v => some [(v, H5)])
  ((f23_r13 call k (sg_l6) x0 x1 x2 x3 x4 x5 x6 x7 x8 x10 x11 x12 x13 x14 x15 x16 x17 x18 x19 x20 x21 x22 x23 x24 x25 x26 x27 x28 x29 x30 x31 x32 x33 x34 x35 x36 x37 x38 x39 x40 x41 x42 x43 x44 x45 x46 v1 x48 x49 x50 x51 x52 x53 (.bool false) x8 v1 v1 x58 x59 x74 x75 x78 x79 x80 x81 x82 x83 x84 x85 x86 x91 x92 x93 x94 x95 x96 x97 x98 x99 x100 x101 x102 x103 x104 x105 x106 x107 x108 x109 x110 x111 x112 x113 x114 x115 x116 x117 x118 x119 x120 x121 H)))
theorem f23_g10_7_true (call : Handle) (k : Nat) (ag_l6 : AG) (sg_l6 : Sg65) (h_l6 : f23_l6_P ag_l6 sg_l6) : o23 0 call [1,1,1,1,0,0,0,1,0,1,1,1,0,0,0] 7 (FG 124 d [(123, undef), (122, undef), (90, undef), (54, (.bool true))]) H ((hSeq (g23 call k [1,1,1,1,0,0,0,1,0,1,1,1,0,0,1]) (hBlock 2 (hSeq (g23 call k [1,1,1,1,0,0,0,1,0,1,1,1,1]) (hBlock 1 (hLoop ag_l6 (hBlock 0 (hSeq (g23 call k [1,1,1,1,1]) (hFin Tryd.prog Tryd.f23)))))))) .normal) =
  onV (oFieldAddr Tryd.prog 55 (d 2) 3) fun v1 =>
  onH (gStore Tryd.prog 28 v1 (.int .i64 4) H) fun H2 =>
  onV (gLoad Tryd.prog 55 (d 2) H2) fun v3 =>
  onH (gStore Tryd.prog 55 (d 2) v3 H2) fun H4 =>
  onV (gResL Tryd.prog H4 [((d 2), some 55)]) fun v => some [(v, H4)] := by
  rw [s23_21]
  rw [hSeq_n]
  rw [n23_41]
  refine (onBool_tt (by kernel_rfl)).trans ?_
  rw [n23_42]
  rw [n23_43]
  rw [s23_22]
  refine onV_c fun v1 => ?_
  refine onH_c fun H2 => ?_
  rw [hSeq_n]
  rw [n23_44]
  rw [n23_45]
  rw [s23_23]
  refine onV_c fun v3 => ?_
  refine onH_c fun H4 => ?_
  rw [hSeq_n]
  rw [n23_46]
  rw [hBlock_r, hSeq_r, hBlock_r, hLoop_r, hBlock_r, hSeq_r]
  kernel_rfl
theorem f23_g10_7_false (call : Handle) (k : Nat) (ag_l6 : AG) (sg_l6 : Sg65) (h_l6 : f23_l6_P ag_l6 sg_l6) : o23 0 call [1,1,1,1,0,0,0,1,0,1,1,1,0,0,0] 7 (FG 124 d [(123, undef), (122, undef), (90, undef), (54, (.bool false))]) H ((hSeq (g23 call k [1,1,1,1,0,0,0,1,0,1,1,1,0,0,1]) (hBlock 2 (hSeq (g23 call k [1,1,1,1,0,0,0,1,0,1,1,1,1]) (hBlock 1 (hLoop ag_l6 (hBlock 0 (hSeq (g23 call k [1,1,1,1,1]) (hFin Tryd.prog Tryd.f23)))))))) .normal) =
  onV ((oUn Tryd.prog .not (d 8)).filter closed) fun v1 =>
  onBool (asB v1)
  (onV (oFieldAddr Tryd.prog 55 (d 2) 3) fun v2 =>
  onH (gStore Tryd.prog 28 v2 (.int .i64 4) H) fun H3 =>
  onV (gLoad Tryd.prog 55 (d 2) H3) fun v4 =>
  onH (gStore Tryd.prog 55 (d 2) v4 H3) fun H5 =>
  onV (gResL Tryd.prog H5 [((d 2), some 55)]) fun v => some [(v, H5)])
  ((f23_r13 call k (sg_l6) (d 0) (d 1) (d 2) (d 3) (d 4) (d 5) (d 6) (d 7) (d 8) (d 10) (d 11) (d 12) (d 13) (d 14) (d 15) (d 16) (d 17) (d 18) (d 19) (d 20) (d 21) (d 22) (d 23) (d 24) (d 25) (d 26) (d 27) (d 28) (d 29) (d 30) (d 31) (d 32) (d 33) (d 34) (d 35) (d 36) (d 37) (d 38) (d 39) (d 40) (d 41) (d 42) (d 43) (d 44) (d 45) (d 46) v1 (d 48) (d 49) (d 50) (d 51) (d 52) (d 53) (.bool false) (d 8) v1 v1 (d 58) (d 59) (d 74) (d 75) (d 78) (d 79) (d 80) (d 81) (d 82) (d 83) (d 84) (d 85) (d 86) (d 91) (d 92) (d 93) (d 94) (d 95) (d 96) (d 97) (d 98) (d 99) (d 100) (d 101) (d 102) (d 103) (d 104) (d 105) (d 106) (d 107) (d 108) (d 109) (d 110) (d 111) (d 112) (d 113) (d 114) (d 115) (d 116) (d 117) (d 118) (d 119) (d 120) (d 121) H)) := by
  rw [s23_24]
  refine onV_c fun v1 => ?_
  rw [hSeq_n]
  rw [n23_41]
  refine onBool_cc (by kernel_rfl) ?_ ?_
  · rw [n23_42]
    rw [n23_43]
    rw [s23_25]
    refine onV_c fun v2 => ?_
    refine onH_c fun H3 => ?_
    rw [hSeq_n]
    rw [n23_44]
    rw [n23_45]
    rw [s23_26]
    refine onV_c fun v4 => ?_
    refine onH_c fun H5 => ?_
    rw [hSeq_n]
    rw [n23_46]
    rw [hBlock_r, hSeq_r, hBlock_r, hLoop_r, hBlock_r, hSeq_r]
    kernel_rfl
  · rw [n23_47]
    generalize e : (FG 124 d [(47, v1), (57, v1), (56, v1), (55, (d 8)), (123, undef), (122, undef), (90, undef), (54, (.bool false))]) = a
    rw [show a = (FG 124 (gf a) [(123, undef), (122, undef), (90, undef)]) from (FG_eq (by subst e; exact FG_len) (FS_cons (by subst e; kernel_rfl) (FS_cons (by subst e; kernel_rfl) (FS_cons (by subst e; kernel_rfl) (FS_nil))))).symm]
    exact (f23_r13_eq (d := gf a) call k ag_l6 sg_l6 h_l6).trans (by subst e; kernel_rfl)
theorem f23_g10_7_eq (call : Handle) (k : Nat) (ag_l6 : AG) (sg_l6 : Sg65) (h_l6 : f23_l6_P ag_l6 sg_l6) : onGrd true xg (o23 0 call [1,1,1,1,0,0,0,1,0,1,1,1,0,0,0] 7 (FG 124 d [(123, undef), (122, undef), (90, undef), (54, xg)]) H ((hSeq (g23 call k [1,1,1,1,0,0,0,1,0,1,1,1,0,0,1]) (hBlock 2 (hSeq (g23 call k [1,1,1,1,0,0,0,1,0,1,1,1,1]) (hBlock 1 (hLoop ag_l6 (hBlock 0 (hSeq (g23 call k [1,1,1,1,1]) (hFin Tryd.prog Tryd.f23)))))))) .normal)) =
  f23_g10_7 call k sg_l6 xg (d 0) (d 1) (d 2) (d 3) (d 4) (d 5) (d 6) (d 7) (d 8) (d 10) (d 11) (d 12) (d 13) (d 14) (d 15) (d 16) (d 17) (d 18) (d 19) (d 20) (d 21) (d 22) (d 23) (d 24) (d 25) (d 26) (d 27) (d 28) (d 29) (d 30) (d 31) (d 32) (d 33) (d 34) (d 35) (d 36) (d 37) (d 38) (d 39) (d 40) (d 41) (d 42) (d 43) (d 44) (d 45) (d 46) (d 48) (d 49) (d 50) (d 51) (d 52) (d 53) (d 58) (d 59) (d 74) (d 75) (d 78) (d 79) (d 80) (d 81) (d 82) (d 83) (d 84) (d 85) (d 86) (d 91) (d 92) (d 93) (d 94) (d 95) (d 96) (d 97) (d 98) (d 99) (d 100) (d 101) (d 102) (d 103) (d 104) (d 105) (d 106) (d 107) (d 108) (d 109) (d 110) (d 111) (d 112) (d 113) (d 114) (d 115) (d 116) (d 117) (d 118) (d 119) (d 120) (d 121) H := by
  cases xg with
  | bool b => cases b with
    | true => exact onGrd_b.trans (f23_g10_7_true call k ag_l6 sg_l6 h_l6)
    | false => exact onGrd_b.trans (f23_g10_7_false call k ag_l6 sg_l6 h_l6)
  | _ => kernel_rfl
noncomputable def f23_g10_3 (call : Handle) (k : Nat) (sg_l6 : Sg65) (x50 : Value) (x0 x1 x2 x3 x4 x5 x6 x7 x8 x10 x11 x12 x13 x14 x15 x16 x17 x18 x19 x20 x21 x22 x23 x24 x25 x26 x27 x28 x29 x30 x31 x32 x33 x34 x35 x36 x37 x38 x39 x40 x41 x42 x43 x44 x45 x46 x48 x49 x58 x59 x74 x75 x78 x79 x80 x81 x82 x83 x84 x85 x86 x91 x92 x93 x94 x95 x96 x97 x98 x99 x100 x101 x102 x103 x104 x105 x106 x107 x108 x109 x110 x111 x112 x113 x114 x115 x116 x117 x118 x119 x120 x121 : Value) (H : GH) : M (Value × GH) :=
 onBool (asB x50)
  (onV (oFieldAddr Tryd.prog 55 x2 3) fun v1 =>
  onH (gStore Tryd.prog 28 v1 (.int .i64 4) H) fun H2 =>
  onV (gLoad Tryd.prog 55 x2 H2) fun v3 =>
  onH (gStore Tryd.prog 55 x2 v3 H2) fun H4 =>
  onV (gResL Tryd.prog H4 [(x2, some 55)]) fun v => some [(v, H4)])
  (onV ((oUn Tryd.prog .not x6).filter closed) fun v1 =>
  (f23_g10_7 call k (sg_l6) v1 x0 x1 x2 x3 x4 x5 x6 x7 x8 x10 x11 x12 x13 x14 x15 x16 x17 x18 x19 x20 x21 x22 x23 x24 x25 x26 x27 x28 x29 x30 x31 x32 x33 x34 x35 x36 x37 x38 x39 x40 x41 x42 x43 x44 x45 x46 x48 x49 (.bool false) x6 v1 v1 x58 x59 x74 x75 x78 x79 x80 x81 x82 x83 x84 x85 x86 x91 x92 x93 x94 x95 x96 x97 x98 x99 x100 x101 x102 x103 x104 x105 x106 x107 x108 x109 x110 x111 x112 x113 x114 x115 x116 x117 x118 x119 x120 x121 H))
theorem f23_g10_3_true (call : Handle) (k : Nat) (ag_l6 : AG) (sg_l6 : Sg65) (h_l6 : f23_l6_P ag_l6 sg_l6) : o23 0 call [1,1,1,1,0,0,0,1,0,1,1,1,0,0,0] 3 (FG 124 d [(123, undef), (122, undef), (90, undef), (50, (.bool true))]) H ((hSeq (g23 call k [1,1,1,1,0,0,0,1,0,1,1,1,0,0,1]) (hBlock 2 (hSeq (g23 call k [1,1,1,1,0,0,0,1,0,1,1,1,1]) (hBlock 1 (hLoop ag_l6 (hBlock 0 (hSeq (g23 call k [1,1,1,1,1]) (hFin Tryd.prog Tryd.f23)))))))) .normal) =
  onV (oFieldAddr Tryd.prog 55 (d 2) 3) fun v1 =>
  onH (gStore Tryd.prog 28 v1 (.int .i64 4) H) fun H2 =>
  onV (gLoad Tryd.prog 55 (d 2) H2) fun v3 =>
  onH (gStore Tryd.prog 55 (d 2) v3 H2) fun H4 =>
  onV (gResL Tryd.prog H4 [((d 2), some 55)]) fun v => some [(v, H4)] := by
  rw [s23_17]
  rw [hSeq_n]
  rw [n23_41]
  refine (onBool_tt (by kernel_rfl)).trans ?_
  rw [n23_42]
  rw [n23_43]
  rw [s23_18]
  refine onV_c fun v1 => ?_
  refine onH_c fun H2 => ?_
  rw [hSeq_n]
  rw [n23_44]
  rw [n23_45]
  rw [s23_19]
  refine onV_c fun v3 => ?_
  refine onH_c fun H4 => ?_
  rw [hSeq_n]
  rw [n23_46]
  rw [hBlock_r, hSeq_r, hBlock_r, hLoop_r, hBlock_r, hSeq_r]
  kernel_rfl
theorem f23_g10_3_false (call : Handle) (k : Nat) (ag_l6 : AG) (sg_l6 : Sg65) (h_l6 : f23_l6_P ag_l6 sg_l6) : o23 0 call [1,1,1,1,0,0,0,1,0,1,1,1,0,0,0] 3 (FG 124 d [(123, undef), (122, undef), (90, undef), (50, (.bool false))]) H ((hSeq (g23 call k [1,1,1,1,0,0,0,1,0,1,1,1,0,0,1]) (hBlock 2 (hSeq (g23 call k [1,1,1,1,0,0,0,1,0,1,1,1,1]) (hBlock 1 (hLoop ag_l6 (hBlock 0 (hSeq (g23 call k [1,1,1,1,1]) (hFin Tryd.prog Tryd.f23)))))))) .normal) =
  onV ((oUn Tryd.prog .not (d 6)).filter closed) fun v1 =>
  (f23_g10_7 call k (sg_l6) v1 (d 0) (d 1) (d 2) (d 3) (d 4) (d 5) (d 6) (d 7) (d 8) (d 10) (d 11) (d 12) (d 13) (d 14) (d 15) (d 16) (d 17) (d 18) (d 19) (d 20) (d 21) (d 22) (d 23) (d 24) (d 25) (d 26) (d 27) (d 28) (d 29) (d 30) (d 31) (d 32) (d 33) (d 34) (d 35) (d 36) (d 37) (d 38) (d 39) (d 40) (d 41) (d 42) (d 43) (d 44) (d 45) (d 46) (d 48) (d 49) (.bool false) (d 6) v1 v1 (d 58) (d 59) (d 74) (d 75) (d 78) (d 79) (d 80) (d 81) (d 82) (d 83) (d 84) (d 85) (d 86) (d 91) (d 92) (d 93) (d 94) (d 95) (d 96) (d 97) (d 98) (d 99) (d 100) (d 101) (d 102) (d 103) (d 104) (d 105) (d 106) (d 107) (d 108) (d 109) (d 110) (d 111) (d 112) (d 113) (d 114) (d 115) (d 116) (d 117) (d 118) (d 119) (d 120) (d 121) H) := by
  rw [o23_s 3 4, s23_20]
  refine onV_c fun v1 => ?_
  generalize e : (FG 124 d [(54, v1), (53, v1), (52, v1), (51, (d 6)), (123, undef), (122, undef), (90, undef), (50, (.bool false))]) = a
  rw [show a = (FG 124 (gf a) [(123, undef), (122, undef), (90, undef), (54, v1)]) from (FG_eq (by subst e; exact FG_len) (FS_cons (by subst e; kernel_rfl) (FS_cons (by subst e; kernel_rfl) (FS_cons (by subst e; kernel_rfl) (FS_cons (by subst e; kernel_rfl) (FS_nil)))))).symm]
  exact (f23_g10_7_eq (d := gf a) call k ag_l6 sg_l6 h_l6).trans (by subst e; kernel_rfl)
theorem f23_g10_3_eq (call : Handle) (k : Nat) (ag_l6 : AG) (sg_l6 : Sg65) (h_l6 : f23_l6_P ag_l6 sg_l6) : onGrd true xg (o23 0 call [1,1,1,1,0,0,0,1,0,1,1,1,0,0,0] 3 (FG 124 d [(123, undef), (122, undef), (90, undef), (50, xg)]) H ((hSeq (g23 call k [1,1,1,1,0,0,0,1,0,1,1,1,0,0,1]) (hBlock 2 (hSeq (g23 call k [1,1,1,1,0,0,0,1,0,1,1,1,1]) (hBlock 1 (hLoop ag_l6 (hBlock 0 (hSeq (g23 call k [1,1,1,1,1]) (hFin Tryd.prog Tryd.f23)))))))) .normal)) =
  f23_g10_3 call k sg_l6 xg (d 0) (d 1) (d 2) (d 3) (d 4) (d 5) (d 6) (d 7) (d 8) (d 10) (d 11) (d 12) (d 13) (d 14) (d 15) (d 16) (d 17) (d 18) (d 19) (d 20) (d 21) (d 22) (d 23) (d 24) (d 25) (d 26) (d 27) (d 28) (d 29) (d 30) (d 31) (d 32) (d 33) (d 34) (d 35) (d 36) (d 37) (d 38) (d 39) (d 40) (d 41) (d 42) (d 43) (d 44) (d 45) (d 46) (d 48) (d 49) (d 58) (d 59) (d 74) (d 75) (d 78) (d 79) (d 80) (d 81) (d 82) (d 83) (d 84) (d 85) (d 86) (d 91) (d 92) (d 93) (d 94) (d 95) (d 96) (d 97) (d 98) (d 99) (d 100) (d 101) (d 102) (d 103) (d 104) (d 105) (d 106) (d 107) (d 108) (d 109) (d 110) (d 111) (d 112) (d 113) (d 114) (d 115) (d 116) (d 117) (d 118) (d 119) (d 120) (d 121) H := by
  cases xg with
  | bool b => cases b with
    | true => exact onGrd_b.trans (f23_g10_3_true call k ag_l6 sg_l6 h_l6)
    | false => exact onGrd_b.trans (f23_g10_3_false call k ag_l6 sg_l6 h_l6)
  | _ => kernel_rfl
noncomputable def f23_r10 (call : Handle) (k : Nat) (sg_l6 : Sg65) (x0 x1 x2 x3 x4 x5 x6 x7 x8 x10 x11 x12 x13 x14 x15 x16 x17 x18 x19 x20 x21 x22 x23 x24 x25 x26 x27 x28 x29 x30 x31 x32 x33 x34 x35 x36 x37 x38 x39 x40 x41 x42 x43 x44 x45 x46 x58 x59 x74 x75 x78 x79 x80 x81 x82 x83 x84 x85 x86 x91 x92 x93 x94 x95 x96 x97 x98 x99 x100 x101 x102 x103 x104 x105 x106 x107 x108 x109 x110 x111 x112 x113 x114 x115 x116 x117 x118 x119 x120 x121 : Value) (H : GH) : M (Value × GH) :=
  onV ((oBin Tryd.prog .gtr 3 x4 (.int .i64 32)).filter closed) fun v1 =>
  (f23_g10_3 call k (sg_l6) v1 x0 x1 x2 x3 x4 x5 x6 x7 x8 x10 x11 x12 x13 x14 x15 x16 x17 x18 x19 x20 x21 x22 x23 x24 x25 x26 x27 x28 x29 x30 x31 x32 x33 x34 x35 x36 x37 x38 x39 x40 x41 x42 x43 x44 x45 x46 x4 v1 x58 x59 x74 x75 x78 x79 x80 x81 x82 x83 x84 x85 x86 x91 x92 x93 x94 x95 x96 x97 x98 x99 x100 x101 x102 x103 x104 x105 x106 x107 x108 x109 x110 x111 x112 x113 x114 x115 x116 x117 x118 x119 x120 x121 H)
theorem f23_r10_eq (call : Handle) (k : Nat) (ag_l6 : AG) (sg_l6 : Sg65) (h_l6 : f23_l6_P ag_l6 sg_l6) : g23 call k [1,1,1,1,0,0,0,1,0,1,1,1,0,0,0] (FG 124 d [(123, undef), (122, undef), (90, undef)]) H (hSeq (g23 call k [1,1,1,1,0,0,0,1,0,1,1,1,0,0,1]) (hBlock 2 (hSeq (g23 call k [1,1,1,1,0,0,0,1,0,1,1,1,1]) (hBlock 1 (hLoop ag_l6 (hBlock 0 (hSeq (g23 call k [1,1,1,1,1]) (hFin Tryd.prog Tryd.f23)))))))) = f23_r10 call k sg_l6 (d 0) (d 1) (d 2) (d 3) (d 4) (d 5) (d 6) (d 7) (d 8) (d 10) (d 11) (d 12) (d 13) (d 14) (d 15) (d 16) (d 17) (d 18) (d 19) (d 20) (d 21) (d 22) (d 23) (d 24) (d 25) (d 26) (d 27) (d 28) (d 29) (d 30) (d 31) (d 32) (d 33) (d 34) (d 35) (d 36) (d 37) (d 38) (d 39) (d 40) (d 41) (d 42) (d 43) (d 44) (d 45) (d 46) (d 58) (d 59) (d 74) (d 75) (d 78) (d 79) (d 80) (d 81) (d 82) (d 83) (d 84) (d 85) (d 86) (d 91) (d 92) (d 93) (d 94) (d 95) (d 96) (d 97) (d 98) (d 99) (d 100) (d 101) (d 102) (d 103) (d 104) (d 105) (d 106) (d 107) (d 108) (d 109) (d 110) (d 111) (d 112) (d 113) (d 114) (d 115) (d 116) (d 117) (d 118) (d 119) (d 120) (d 121) H := by
  unfold f23_r10
  rw [n23_40]
  rw [o23_s 0 3, s23_16]
  refine onV_c fun v1 => ?_
  generalize e : (FG 124 d [(50, v1), (49, v1), (48, (d 4)), (123, undef), (122, undef), (90, undef)]) = a
  rw [show a = (FG 124 (gf a) [(123, undef), (122, undef), (90, undef), (50, v1)]) from (FG_eq (by subst e; exact FG_len) (FS_cons (by subst e; kernel_rfl) (FS_cons (by subst e; kernel_rfl) (FS_cons (by subst e; kernel_rfl) (FS_cons (by subst e; kernel_rfl) (FS_nil)))))).symm]
  exact (f23_g10_3_eq (d := gf a) call k ag_l6 sg_l6 h_l6).trans (by subst e; kernel_rfl)
noncomputable def f23_r8 (call : Handle) (k : Nat) (sg_l6 : Sg65) (x0 x1 x2 x3 x4 x10 x11 x12 x13 x14 x15 x16 x17 x18 x19 x20 x21 x22 x23 x24 x25 x26 x27 x28 x29 x30 x31 x32 x33 x58 x59 x74 x75 x78 x79 x80 x81 x82 x83 x84 x85 x86 x91 x92 x93 x94 x95 x96 x97 x98 x99 x100 x101 x102 x103 x104 x105 x106 x107 x108 x109 x110 x111 x112 x113 x114 x115 x116 x117 x118 x119 x120 x121 : Value) (H : GH) : M (Value × GH) :=
  onV ((oBin Tryd.prog .mul 3 x4 (.int .i64 3)).filter closed) fun v1 =>
  onV ((oBin Tryd.prog .add 3 (.int .i64 1) v1).filter closed) fun v2 =>
  onCall 0 call x3 [v2] H fun v3 H4 =>
  onV (oExtract v3 0) fun v5 =>
  onV (oExtract v3 1) fun v6 =>
  onCall 0 call x3 [(.int .i64 2)] H4 fun v7 H8 =>
  onV (oExtract v7 0) fun v9 =>
  onV (oExtract v7 1) fun v10 =>
  (f23_r10 call k (sg_l6) x0 x1 x2 x3 x4 v5 v6 v9 v10 x10 x11 x12 x13 x14 x15 x16 x17 x18 x19 x20 x21 x22 x23 x24 x25 x26 x27 x28 x29 x30 x31 x32 x33 v3 x3 x4 v1 v2 v3 v5 v6 v7 x3 v7 v9 v10 x58 x59 x74 x75 x78 x79 x80 x81 x82 x83 x84 x85 x86 x91 x92 x93 x94 x95 x96 x97 x98 x99 x100 x101 x102 x103 x104 x105 x106 x107 x108 x109 x110 x111 x112 x113 x114 x115 x116 x117 x118 x119 x120 x121 H8)
theorem f23_r8_eq (call : Handle) (k : Nat) (ag_l6 : AG) (sg_l6 : Sg65) (h_l6 : f23_l6_P ag_l6 sg_l6) : g23 call k [1,1,1,1,0,0,0,1,0,1,0] (FG 124 d [(123, undef), (122, undef), (90, undef)]) H (hSeq (g23 call k [1,1,1,1,0,0,0,1,0,1,1]) (hBlock 1 (hLoop ag_l6 (hBlock 0 (hSeq (g23 call k [1,1,1,1,1]) (hFin Tryd.prog Tryd.f23)))))) = f23_r8 call k sg_l6 (d 0) (d 1) (d 2) (d 3) (d 4) (d 10) (d 11) (d 12) (d 13) (d 14) (d 15) (d 16) (d 17) (d 18) (d 19) (d 20) (d 21) (d 22) (d 23) (d 24) (d 25) (d 26) (d 27) (d 28) (d 29) (d 30) (d 31) (d 32) (d 33) (d 58) (d 59) (d 74) (d 75) (d 78) (d 79) (d 80) (d 81) (d 82) (d 83) (d 84) (d 85) (d 86) (d 91) (d 92) (d 93) (d 94) (d 95) (d 96) (d 97) (d 98) (d 99) (d 100) (d 101) (d 102) (d 103) (d 104) (d 105) (d 106) (d 107) (d 108) (d 109) (d 110) (d 111) (d 112) (d 113) (d 114) (d 115) (d 116) (d 117) (d 118) (d 119) (d 120) (d 121) H := by
  unfold f23_r8
  rw [n23_29]
  rw [s23_12]
  refine onV_c fun v1 => ?_
  refine onV_c fun v2 => ?_
  refine onCall_c fun v3 H4 => ?_
  refine onV_c fun v5 => ?_
  refine onV_c fun v6 => ?_
  rw [hSeq_n]
  rw [n23_30]
  rw [n23_31]
  rw [s23_13]
  refine onCall_c fun v7 H8 => ?_
  refine onV_c fun v9 => ?_
  refine onV_c fun v10 => ?_
  rw [hSeq_n]
  rw [n23_32]
  rw [n23_33]
  rw [n23_34]
  generalize e : (FG 124 d [(8, v10), (7, v9), (46, v10), (45, v9), (42, v7), (44, v7), (43, (d 3)), (6, v6), (5, v5), (41, v6), (40, v5), (34, v3), (39, v3), (38, v2), (37, v1), (36, (d 4)), (35, (d 3)), (123, undef), (122, undef), (90, undef)]) = a
  rw [show a = (FG 124 (gf a) [(123, undef), (122, undef), (90, undef)]) from (FG_eq (by subst e; exact FG_len) (FS_cons (by subst e; kernel_rfl) (FS_cons (by subst e; kernel_rfl) (FS_cons (by subst e; kernel_rfl) (FS_nil))))).symm]
  exact (f23_r10_eq (d := gf a) call k ag_l6 sg_l6 h_l6).trans (by subst e; kernel_rfl)
noncomputable def f23_l6b (call : Handle) (k : Nat) (sg_l6 : Sg65) (x0 x1 x2 x3 x10 x11 x12 x13 x14 x15 x16 x17 x18 x19 x20 x21 x22 x23 x24 x25 x26 x58 x59 x74 x75 x78 x79 x80 x81 x82 x83 x84 x85 x86 x91 x92 x93 x94 x95 x96 x97 x98 x99 x100 x101 x102 x103 x104 x105 x106 x107 x108 x109 x110 x111 x112 x113 x114 x115 x116 x117 x118 x119 x120 x121 : Value) (H : GH) : M (Value × GH) :=
  onV (gLoad Tryd.prog 24 x1 H) fun v1 =>
  onV (oLen Tryd.prog 24 v1) fun v2 =>
  onV ((oBin Tryd.prog .gtr 3 v2 (.int .i64 0)).filter closed) fun v3 =>
  onBool (asB v3)
  (onV (gLoad Tryd.prog 24 x1 H) fun v4 =>
  onV (oIndexAddr Tryd.prog 24 v4 (.int .i64 0)) fun v5 =>
  onV (gLoad Tryd.prog 5 v5 H) fun v6 =>
  onV ((oConvert Tryd.prog 5 3 v6).filter closed) fun v7 =>
  (f23_r8 call k (sg_l6) x0 x1 x2 x3 v7 x10 x11 x12 x13 x14 x15 x16 x17 x18 x19 x20 x21 x22 x23 x24 x25 x26 v1 v2 v3 v4 v5 v6 v7 x58 x59 x74 x75 x78 x79 x80 x81 x82 x83 x84 x85 x86 x91 x92 x93 x94 x95 x96 x97 x98 x99 x100 x101 x102 x103 x104 x105 x106 x107 x108 x109 x110 x111 x112 x113 x114 x115 x116 x117 x118 x119 x120 x121 H))
  ((f23_r33 call k x2 H))
theorem f23_l6b_eq (call : Handle) (k : Nat) (ag_l6 : AG) (sg_l6 : Sg65) (h_l6 : f23_l6_P ag_l6 sg_l6) : g23 call k [1,1,1,1,0,0,0] (FG 124 d [(123, undef), (122, undef), (90, undef)]) H (hLoop ag_l6 (hBlock 0 (hSeq (g23 call k [1,1,1,1,1]) (hFin Tryd.prog Tryd.f23)))) = f23_l6b call k sg_l6 (d 0) (d 1) (d 2) (d 3) (d 10) (d 11) (d 12) (d 13) (d 14) (d 15) (d 16) (d 17) (d 18) (d 19) (d 20) (d 21) (d 22) (d 23) (d 24) (d 25) (d 26) (d 58) (d 59) (d 74) (d 75) (d 78) (d 79) (d 80) (d 81) (d 82) (d 83) (d 84) (d 85) (d 86) (d 91) (d 92) (d 93) (d 94) (d 95) (d 96) (d 97) (d 98) (d 99) (d 100) (d 101) (d 102) (d 103) (d 104) (d 105) (d 106) (d 107) (d 108) (d 109) (d 110) (d 111) (d 112) (d 113) (d 114) (d 115) (d 116) (d 117) (d 118) (d 119) (d 120) (d 121) H := by
  unfold f23_l6b
  rw [n23_19]
  rw [n23_20]
  rw [n23_21]
  rw [s23_10]
  refine onV_c fun v1 => ?_
  refine onV_c fun v2 => ?_
  refine onV_c fun v3 => ?_
  rw [hSeq_n]
  rw [n23_22]
  refine onBool_cc (by kernel_rfl) ?_ ?_
  · rw [n23_23]
    rw [hSeq_n]
    rw [n23_24]
    rw [n23_25]
    rw [n23_26]
    rw [s23_11]
    refine onV_c fun v4 => ?_
    refine onV_c fun v5 => ?_
    refine onV_c fun v6 => ?_
    refine onV_c fun v7 => ?_
    rw [hSeq_n]
    rw [n23_27]
    generalize e : (FG 124 d [(4, v7), (33, v7), (32, v6), (31, v5), (30, v4), (29, v3), (28, v2), (27, v1), (123, undef), (122, undef), (90, undef)]) = a
    rw [show a = (FG 124 (gf a) [(123, undef), (122, undef), (90, undef)]) from (FG_eq (by subst e; exact FG_len) (FS_cons (by subst e; kernel_rfl) (FS_cons (by subst e; kernel_rfl) (FS_cons (by subst e; kernel_rfl) (FS_nil))))).symm]
    exact (f23_r8_eq (d := gf a) call k ag_l6 sg_l6 h_l6).trans (by subst e; kernel_rfl)
  · rw [n23_28]
    rw [hSeq_e, hLoop_e, hBlock_hit]
    rw [hSeq_n]
    generalize e : (FG 124 d [(29, v3), (28, v2), (27, v1), (123, undef), (122, undef), (90, undef)]) = a
    rw [show a = (FF 124 (gf a)) from (FF_gf (by subst e; exact FG_len)).symm]
    exact (f23_r33_eq (d := gf a) call k).trans (by subst e; kernel_rfl)
noncomputable def f23_l6 (call : Handle) (k : Nat) : Nat → Value → Value → Value → Value → Value → Value → Value → Value → Value → Value → Value → Value → Value → Value → Value → Value → Value → Value → Value → Value → Value → Value → Value → Value → Value → Value → Value → Value → Value → Value → Value → Value → Value → Value → Value → Value → Value → Value → Value → Value → Value → Value → Value → Value → Value → Value → Value → Value → Value → Value → Value → Value → Value → Value → Value → Value → Value → Value → Value → Value → Value → Value → Value → Value → Value → GH → M (Value × GH)
  | 0, _, _, _, _, _, _, _, _, _, _, _, _, _, _, _, _, _, _, _, _, _, _, _, _, _, _, _, _, _, _, _, _, _, _, _, _, _, _, _, _, _, _, _, _, _, _, _, _, _, _, _, _, _, _, _, _, _, _, _, _, _, _, _, _, _, _ => none
  | r + 1, x0, x1, x2, x3, x10, x11, x12, x13, x14, x15, x16, x17, x18, x19, x20, x21, x22, x23, x24, x25, x26, x58, x59, x74, x75, x78, x79, x80, x81, x82, x83, x84, x85, x86, x91, x92, x93, x94, x95, x96, x97, x98, x99, x100, x101, x102, x103, x104, x105, x106, x107, x108, x109, x110, x111, x112, x113, x114, x115, x116, x117, x118, x119, x120, x121, H => f23_l6b call k (f23_l6 call k r) x0 x1 x2 x3 x10 x11 x12 x13 x14 x15 x16 x17 x18 x19 x20 x21 x22 x23 x24 x25 x26 x58 x59 x74 x75 x78 x79 x80 x81 x82 x83 x84 x85 x86 x91 x92 x93 x94 x95 x96 x97 x98 x99 x100 x101 x102 x103 x104 x105 x106 x107 x108 x109 x110 x111 x112 x113 x114 x115 x116 x117 x118 x119 x120 x121 H
theorem f23_l6_eq (call : Handle) (k : Nat) : ∀ (r : Nat), f23_l6_P (gLoop (g23 call k [1,1,1,1,0,0,0]) (hBlock 0 (hSeq (g23 call k [1,1,1,1,1]) (hFin Tryd.prog Tryd.f23))) r) (f23_l6 call k r) := by
  intro r
  induction r with
  | zero => unfold f23_l6_P; intros; rfl
  | succ r ih => unfold f23_l6_P; intros; exact f23_l6b_eq call k _ _ ih
noncomputable def f23_g1_4 (call : Handle) (k : Nat) (x15 : Value) (x0 x1 x2 x12 x13 x14 : Value) (H : GH) : M (Value × GH) :=
 onBool (asB x15)
  (onV (oFieldAddr Tryd.prog 55 x2 3) fun v1 =>
  onH (gStore Tryd.prog 28 v1 (.int .i64 4) H) fun H2 =>
  onV (gLoad Tryd.prog 55 x2 H2) fun v3 =>
  onH (gStore Tryd.prog 55 x2 v3 H2) fun H4 =>
  onV (gResL Tryd.prog H4 [(x2, some 55)]) fun v => some [(v, H4)])
  (onV (gLoad Tryd.prog 24 x1 H) fun v1 =>
  onV (oSlice Tryd.prog 24 v1 none (some (.int .i64 4)) none) fun v2 =>
  onV (oSlice Tryd.prog 60 (.pointer (some ⟨0, 0, none⟩)) none none none) fun v3 =>
  onCall 1 call (.func (.func 29) #[] #[]) [v2, v3] H fun v4 H5 =>
  onV ((oUn Tryd.prog .not v4).filter closed) fun v6 =>
  onBool (asB v6)
  (onV (oFieldAddr Tryd.prog 55 x2 3) fun v7 =>
  onH (gStore Tryd.prog 28 v7 (.int .i64 4) H5) fun H8 =>
  onV (gLoad Tryd.prog 55 x2 H8) fun v9 =>
  onH (gStore Tryd.prog 55 x2 v9 H8) fun H10 =>
  onV (gResL Tryd.prog H10 [(x2, some 55)]) fun v => some [(v, H10)])
  (onV (gLoad Tryd.prog 24 x1 H5) fun v11 =>
  onV (oSlice Tryd.prog 24 v11 (some (.int .i64 4)) none none) fun v12 =>
  onH (gStore Tryd.prog 24 x1 v12 H5) fun H13 =>
  (f23_l6 call k k x0 x1 x2 (.func (.func 30) #[] #[x1]) undef undef x12 x13 x14 (.bool false) v1 v2 v3 v4 v6 v6 undef undef v11 v12 (.func (.func 30) #[] #[x1]) undef undef undef undef undef undef undef undef undef undef undef undef undef undef undef undef undef undef undef undef undef undef undef undef undef undef undef undef undef undef undef undef undef undef undef undef undef undef undef undef undef undef undef undef H13)))
theorem f23_g1_4_true (call : Handle) (k : Nat) : o23 1 call [1,0,0] 4 (FG 124 d [(123, undef), (122, undef), (121, undef), (120, undef), (119, undef), (118, undef), (117, undef), (116, undef), (115, undef), (114, undef), (113, undef), (112, undef), (111, undef), (110, undef), (109, undef), (108, undef), (107, undef), (106, undef), (105, undef), (104, undef), (103, undef), (102, undef), (101, undef), (100, undef), (99, undef), (98, undef), (97, undef), (96, undef), (95, undef), (94, undef), (93, undef), (92, undef), (91, undef), (90, undef), (86, undef), (85, undef), (84, undef), (83, undef), (82, undef), (81, undef), (80, undef), (79, undef), (78, undef), (75, undef), (74, undef), (59, undef), (58, undef), (23, undef), (22, undef), (15, (.bool true)), (11, undef), (10, undef)]) H ((hSeq (g23 call k [1,0,1]) (hSeq (g23 call k [1,1]) (hFin Tryd.prog Tryd.f23))) .normal) =
  onV (oFieldAddr Tryd.prog 55 (d 2) 3) fun v1 =>
  onH (gStore Tryd.prog 28 v1 (.int .i64 4) H) fun H2 =>
  onV (gLoad Tryd.prog 55 (d 2) H2) fun v3 =>
  onH (gStore Tryd.prog 55 (d 2) v3 H2) fun H4 =>
  onV (gResL Tryd.prog H4 [((d 2), some 55)]) fun v => some [(v, H4)] := by
  rw [s23_2]
  rw [hSeq_n]
  rw [n23_5]
  refine (onBool_tt (by kernel_rfl)).trans ?_
  rw [n23_6]
  rw [n23_7]
  rw [s23_3]
  refine onV_c fun v1 => ?_
  refine onH_c fun H2 => ?_
  rw [hSeq_n]
  rw [n23_8]
  rw [n23_9]
  rw [s23_4]
  refine onV_c fun v3 => ?_
  refine onH_c fun H4 => ?_
  rw [hSeq_n]
  rw [n23_10]
  rw [hSeq_r]
  kernel_rfl
theorem f23_g1_4_false (call : Handle) (k : Nat) : o23 1 call [1,0,0] 4 (FG 124 d [(123, undef), (122, undef), (121, undef), (120, undef), (119, undef), (118, undef), (117, undef), (116, undef), (115, undef), (114, undef), (113, undef), (112, undef), (111, undef), (110, undef), (109, undef), (108, undef), (107, undef), (106, undef), (105, undef), (104, undef), (103, undef), (102, undef), (101, undef), (100, undef), (99, undef), (98, undef), (97, undef), (96, undef), (95, undef), (94, undef), (93, undef), (92, undef), (91, undef), (90, undef), (86, undef), (85, undef), (84, undef), (83, undef), (82, undef), (81, undef), (80, undef), (79, undef), (78, undef), (75, undef), (74, undef), (59, undef), (58, undef), (23, undef), (22, undef), (15, (.bool false)), (11, undef), (10, undef)]) H ((hSeq (g23 call k [1,0,1]) (hSeq (g23 call k [1,1]) (hFin Tryd.prog Tryd.f23))) .normal) =
  onV (gLoad Tryd.prog 24 (d 1) H) fun v1 =>
  onV (oSlice Tryd.prog 24 v1 none (some (.int .i64 4)) none) fun v2 =>
  onV (oSlice Tryd.prog 60 (.pointer (some ⟨0, 0, none⟩)) none none none) fun v3 =>
  onCall 1 call (.func (.func 29) #[] #[]) [v2, v3] H fun v4 H5 =>
  onV ((oUn Tryd.prog .not v4).filter closed) fun v6 =>
  onBool (asB v6)
  (onV (oFieldAddr Tryd.prog 55 (d 2) 3) fun v7 =>
  onH (gStore Tryd.prog 28 v7 (.int .i64 4) H5) fun H8 =>
  onV (gLoad Tryd.prog 55 (d 2) H8) fun v9 =>
  onH (gStore Tryd.prog 55 (d 2) v9 H8) fun H10 =>
  onV (gResL Tryd.prog H10 [((d 2), some 55)]) fun v => some [(v, H10)])
  (onV (gLoad Tryd.prog 24 (d 1) H5) fun v11 =>
  onV (oSlice Tryd.prog 24 v11 (some (.int .i64 4)) none none) fun v12 =>
  onH (gStore Tryd.prog 24 (d 1) v12 H5) fun H13 =>
  (f23_l6 call k k (d 0) (d 1) (d 2) (.func (.func 30) #[] #[(d 1)]) undef undef (d 12) (d 13) (d 14) (.bool false) v1 v2 v3 v4 v6 v6 undef undef v11 v12 (.func (.func 30) #[] #[(d 1)]) undef undef undef undef undef undef undef undef undef undef undef undef undef undef undef undef undef undef undef undef undef undef undef undef undef undef undef undef undef undef undef undef undef undef undef undef undef undef undef undef undef undef undef undef H13)) := by
  rw [s23_5]
  refine onV_c fun v1 => ?_
  refine onV_c fun v2 => ?_
  refine onV_c fun v3 => ?_
  refine onCall_c fun v4 H5 => ?_
  refine onV_c fun v6 => ?_
  rw [hSeq_n]
  rw [n23_5]
  refine onBool_cc (by kernel_rfl) ?_ ?_
  · rw [n23_6]
    rw [n23_7]
    rw [s23_6]
    refine onV_c fun v7 => ?_
    refine onH_c fun H8 => ?_
    rw [hSeq_n]
    rw [n23_8]
    rw [n23_9]
    rw [s23_7]
    refine onV_c fun v9 => ?_
    refine onH_c fun H10 => ?_
    rw [hSeq_n]
    rw [n23_10]
    rw [hSeq_r]
    kernel_rfl
  · rw [n23_11]
    rw [hSeq_n]
    rw [n23_12]
    rw [n23_13]
    rw [s23_8]
    refine onV_c fun v11 => ?_
    refine onV_c fun v12 => ?_
    refine onH_c fun H13 => ?_
    rw [hSeq_n]
    rw [n23_14]
    rw [n23_15]
    rw [s23_9]
    rw [hSeq_n]
    rw [n23_16]
    rw [n23_17]
    rw [n23_18]
    generalize e : (FG 124 d [(3, (.func (.func 30) #[] #[(d 1)])), (26, (.func (.func 30) #[] #[(d 1)])), (25, v12), (24, v11), (21, v6), (20, v6), (19, v4), (18, v3), (17, v2), (16, v1), (123, undef), (122, undef), (121, undef), (120, undef), (119, undef), (118, undef), (117, undef), (116, undef), (115, undef), (114, undef), (113, undef), (112, undef), (111, undef), (110, undef), (109, undef), (108, undef), (107, undef), (106, undef), (105, undef), (104, undef), (103, undef), (102, undef), (101, undef), (100, undef), (99, undef), (98, undef), (97, undef), (96, undef), (95, undef), (94, undef), (93, undef), (92, undef), (91, undef), (90, undef), (86, undef), (85, undef), (84, undef), (83, undef), (82, undef), (81, undef), (80, undef), (79, undef), (78, undef), (75, undef), (74, undef), (59, undef), (58, undef), (23, undef), (22, undef), (15, (.bool false)), (11, undef), (10, undef)]) = a
    rw [show a = (FG 124 (gf a) [(123, undef), (122, undef), (90, undef)]) from (FG_eq (by subst e; exact FG_len) (FS_cons (by subst e; kernel_rfl) (FS_cons (by subst e; kernel_rfl) (FS_cons (by subst e; kernel_rfl) (FS_nil))))).symm]
    exact (f23_l6_at (d := gf a) (f23_l6_eq call k k)).trans (by subst e; kernel_rfl)
theorem f23_g1_4_eq (call : Handle) (k : Nat) : onGrd true xg (o23 1 call [1,0,0] 4 (FG 124 d [(123, undef), (122, undef), (121, undef), (120, undef), (119, undef), (118, undef), (117, undef), (116, undef), (115, undef), (114, undef), (113, undef), (112, undef), (111, undef), (110, undef), (109, undef), (108, undef), (107, undef), (106, undef), (105, undef), (104, undef), (103, undef), (102, undef), (101, undef), (100, undef), (99, undef), (98, undef), (97, undef), (96, undef), (95, undef), (94, undef), (93, undef), (92, undef), (91, undef), (90, undef), (86, undef), (85, undef), (84, undef), (83, undef), (82, undef), (81, undef), (80, undef), (79, undef), (78, undef), (75, undef), (74, undef), (59, undef), (58, undef), (23, undef), (22, undef), (15, xg), (11, undef), (10, undef)]) H ((hSeq (g23 call k [1,0,1]) (hSeq (g23 call k [1,1]) (hFin Tryd.prog Tryd.f23))) .normal)) =
  f23_g1_4 call k xg (d 0) (d 1) (d 2) (d 12) (d 13) (d 14) H := by
  cases xg with
  | bool b => cases b with
    | true => exact onGrd_b.trans (f23_g1_4_true call k)
    | false => exact onGrd_b.trans (f23_g1_4_false call k)
  | _ => kernel_rfl
noncomputable def f23_g25_4 (call : Handle) (k : Nat) (L : Nat) (x96 : Value) (x2 x9 x10 x11 : Value) (H : GH) : M (Value × GH) :=
 onBool (asB x96)
  (onV (oFieldAddr Tryd.prog 55 x2 3) fun v1 =>
  onH (gStore Tryd.prog 28 v1 (.int .i64 4) H) fun H2 =>
  onV (gLoad Tryd.prog 55 x2 H2) fun v3 =>
  onH (gStore Tryd.prog 55 x2 v3 H2) fun H4 =>
  hRound L .ret [] H4)
  (onV (gLoad Tryd.prog 48 x11 H) fun v1 =>
  onCall 0 call (.func (.func 27) #[] #[]) [v1] H fun v2 H3 =>
  onCall 0 call (.func (.func 29) #[] #[]) [v2, x10] H3 fun v4 H5 =>
  onV ((oUn Tryd.prog .not v4).filter closed) fun v6 =>
  onBool (asB v6)
  (onV (oFieldAddr Tryd.prog 55 x2 3) fun v7 =>
  onH (gStore Tryd.prog 28 v7 (.int .i64 4) H5) fun H8 =>
  onV (gLoad Tryd.prog 55 x2 H8) fun v9 =>
  onH (gStore Tryd.prog 55 x2 v9 H8) fun H10 =>
  hRound L .ret [] H10)
  (onV (gLoad Tryd.prog 26 x9 H5) fun v11 =>
  onV (gLoad Tryd.prog 48 x11 H5) fun v12 =>
  onVH (gBuildSlice Tryd.prog 26 1 [(0, v12)] H5) fun v13 H14 =>
  onVH (gAppend Tryd.prog 26 26 v11 v13 H14) fun v15 H16 =>
  onH (gStore Tryd.prog 26 x9 v15 H16) fun H17 =>
  hRound L .normal [] H17))
theorem f23_g25_4_true (call : Handle) (k : Nat) (L : Nat) : o23 0 call [1,1,1,1,0,0,0,1,0,1,1,1,1,1,1,0,1,0,1,0,1,0,0] 4 (FG 124 d [(96, (.bool true))]) H ((hSeq (g23 call k [1,1,1,1,0,0,0,1,0,1,1,1,1,1,1,0,1,0,1,0,1,0,1]) (hSeq (g23 call k [1,1,1,1,0,0,0,1,0,1,1,1,1,1,1,0,1,0,1,0,1,1]) (hBlock 4 (hRound L)))) .normal) =
  onV (oFieldAddr Tryd.prog 55 (d 2) 3) fun v1 =>
  onH (gStore Tryd.prog 28 v1 (.int .i64 4) H) fun H2 =>
  onV (gLoad Tryd.prog 55 (d 2) H2) fun v3 =>
  onH (gStore Tryd.prog 55 (d 2) v3 H2) fun H4 =>
  hRound L .ret [] H4 := by
  rw [s23_45]
  rw [hSeq_n]
  rw [n23_97]
  refine (onBool_tt (by kernel_rfl)).trans ?_
  rw [n23_98]
  rw [n23_99]
  rw [s23_46]
  refine onV_c fun v1 => ?_
  refine onH_c fun H2 => ?_
  rw [hSeq_n]
  rw [n23_100]
  rw [n23_101]
  rw [s23_47]
  refine onV_c fun v3 => ?_
  refine onH_c fun H4 => ?_
  rw [hSeq_n]
  rw [n23_102]
  rw [hSeq_r, hBlock_r]
  exact hRound_x
theorem f23_g25_4_false (call : Handle) (k : Nat) (L : Nat) : o23 0 call [1,1,1,1,0,0,0,1,0,1,1,1,1,1,1,0,1,0,1,0,1,0,0] 4 (FG 124 d [(96, (.bool false))]) H ((hSeq (g23 call k [1,1,1,1,0,0,0,1,0,1,1,1,1,1,1,0,1,0,1,0,1,0,1]) (hSeq (g23 call k [1,1,1,1,0,0,0,1,0,1,1,1,1,1,1,0,1,0,1,0,1,1]) (hBlock 4 (hRound L)))) .normal) =
  onV (gLoad Tryd.prog 48 (d 11) H) fun v1 =>
  onCall 0 call (.func (.func 27) #[] #[]) [v1] H fun v2 H3 =>
  onCall 0 call (.func (.func 29) #[] #[]) [v2, (d 10)] H3 fun v4 H5 =>
  onV ((oUn Tryd.prog .not v4).filter closed) fun v6 =>
  onBool (asB v6)
  (onV (oFieldAddr Tryd.prog 55 (d 2) 3) fun v7 =>
  onH (gStore Tryd.prog 28 v7 (.int .i64 4) H5) fun H8 =>
  onV (gLoad Tryd.prog 55 (d 2) H8) fun v9 =>
  onH (gStore Tryd.prog 55 (d 2) v9 H8) fun H10 =>
  hRound L .ret [] H10)
  (onV (gLoad Tryd.prog 26 (d 9) H5) fun v11 =>
  onV (gLoad Tryd.prog 48 (d 11) H5) fun v12 =>
  onVH (gBuildSlice Tryd.prog 26 1 [(0, v12)] H5) fun v13 H14 =>
  onVH (gAppend Tryd.prog 26 26 v11 v13 H14) fun v15 H16 =>
  onH (gStore Tryd.prog 26 (d 9) v15 H16) fun H17 =>
  hRound L .normal [] H17) := by
  rw [s23_48]
  refine onV_c fun v1 => ?_
  refine onCall_c fun v2 H3 => ?_
  refine onCall_c fun v4 H5 => ?_
  refine onV_c fun v6 => ?_
  rw [hSeq_n]
  rw [n23_97]
  refine onBool_cc (by kernel_rfl) ?_ ?_
  · rw [n23_98]
    rw [n23_99]
    rw [s23_49]
    refine onV_c fun v7 => ?_
    refine onH_c fun H8 => ?_
    rw [hSeq_n]
    rw [n23_100]
    rw [n23_101]
    rw [s23_50]
    refine onV_c fun v9 => ?_
    refine onH_c fun H10 => ?_
    rw [hSeq_n]
    rw [n23_102]
    rw [hSeq_r, hBlock_r]
    exact hRound_x
  · rw [n23_103]
    rw [hSeq_n]
    rw [n23_104]
    rw [s23_51]
    refine onV_c fun v11 => ?_
    refine onV_c fun v12 => ?_
    refine onVH_c fun v13 H14 => ?_
    refine onVH_c fun v15 H16 => ?_
    refine onH_c fun H17 => ?_
    rw [hBlock_n]
    exact hRound_x
theorem f23_g25_4_eq (call : Handle) (k : Nat) (L : Nat) : onGrd true xg (o23 0 call [1,1,1,1,0,0,0,1,0,1,1,1,1,1,1,0,1,0,1,0,1,0,0] 4 (FG 124 d [(96, xg)]) H ((hSeq (g23 call k [1,1,1,1,0,0,0,1,0,1,1,1,1,1,1,0,1,0,1,0,1,0,1]) (hSeq (g23 call k [1,1,1,1,0,0,0,1,0,1,1,1,1,1,1,0,1,0,1,0,1,1]) (hBlock 4 (hRound L)))) .normal)) =
  f23_g25_4 call k L xg (d 2) (d 9) (d 10) (d 11) H := by
  cases xg with
  | bool b => cases b with
    | true => exact onGrd_b.trans (f23_g25_4_true call k L)
    | false => exact onGrd_b.trans (f23_g25_4_false call k L)
  | _ => kernel_rfl
noncomputable def f23_r25 (call : Handle) (k : Nat) (L : Nat) (x2 x9 x10 x11 : Value) (H : GH) : M (Value × GH) :=
  onV (gLoad Tryd.prog 48 x11 H) fun v1 =>
  onCall 0 call (.func (.func 25) #[] #[]) [v1] H fun v2 H3 =>
  onV ((oBin Tryd.prog .neq 28 v2 (.int .i64 0)).filter closed) fun v4 =>
  (f23_g25_4 call k L v4 x2 x9 x10 x11 H3)
theorem f23_r25_eq (call : Handle) (k : Nat) (L : Nat) : g23 call k [1,1,1,1,0,0,0,1,0,1,1,1,1,1,1,0,1,0,1,0,1,0,0] (FF 124 d) H (hSeq (g23 call k [1,1,1,1,0,0,0,1,0,1,1,1,1,1,1,0,1,0,1,0,1,0,1]) (hSeq (g23 call k [1,1,1,1,0,0,0,1,0,1,1,1,1,1,1,0,1,0,1,0,1,1]) (hBlock 4 (hRound L)))) = f23_r25 call k L (d 2) (d 9) (d 10) (d 11) H := by
  unfold f23_r25
  rw [n23_96]
  rw [o23_s 0 4, s23_44]
  refine onV_c fun v1 => ?_
  refine onCall_c fun v2 H3 => ?_
  refine onV_c fun v4 => ?_
  generalize e : (FG 124 d [(96, v4), (95, v4), (94, v2), (93, v1)]) = a
  rw [show a = (FG 124 (gf a) [(96, v4)]) from (FG_eq (by subst e; exact FG_len) (FS_cons (by subst e; kernel_rfl) (FS_nil))).symm]
  exact (f23_g25_4_eq (d := gf a) call k L).trans (by subst e; kernel_rfl)
noncomputable def f23_R23 (call : Handle) (k : Nat) (L : Nat) (x2 x9 x90 : Value) (H : GH) : M (Value × GH) :=
  onReady L H fun H1 =>
  onCall 0 call (.func (.func 32) #[] #[]) [x90] H1 fun v2 H3 =>
  onH (gStore Tryd.prog 48 (.pointer (some ⟨H3.n, 0, none⟩)) v2 (GH.push H3 (.row [(.int .u8 0), (.int .u8 0), (.int .u8 0), (.int .i64 0), (.int .u8 0), (.int .i64 0)] 48 false))) fun H4 =>
  (f23_r25 call k L x2 x9 x90 (.pointer (some ⟨H3.n, 0, none⟩)) H4)
theorem f23_R23_eq (call : Handle) (k : Nat) (L : Nat) : g23 call k [1,1,1,1,0,0,0,1,0,1,1,1,1,1,1,0,1,0,0] (FF 124 d) H (hBegin Tryd.prog call k L (fAt Tryd.f23 [1,1,1,1,0,0,0,1,0,1,1,1,1,1,1,0,1,0,1])) = f23_R23 call k L (d 2) (d 9) (d 90) H := by
  unfold f23_R23
  rw [n23_79]
  rw [s23_38]
  rw [hBegin_n]
  refine onReady_c fun H1 => ?_
  show g23 call k [1,1,1,1,0,0,0,1,0,1,1,1,1,1,1,0,1,0,1] (FG 124 d [(10, (d 90))]) H1 (hRound L) = _
  rw [n23_80]
  rw [n23_81]
  rw [n23_82]
  rw [s23_39]
  refine onCall_c fun v2 H3 => ?_
  refine onH_c fun H4 => ?_
  rw [hSeq_n]
  rw [n23_83]
  rw [n23_84]
  generalize e : (FG 124 d [(11, (.pointer (some ⟨H3.n, 0, none⟩))), (92, v2), (91, (d 90)), (10, (d 90))]) = a
  rw [show a = (FF 124 (gf a)) from (FF_gf (by subst e; exact FG_len)).symm]
  exact (f23_r25_eq (d := gf a) call k L).trans (by subst e; kernel_rfl)
noncomputable def f23_sh (call : Handle) (k : Nat) (p0 : Value) (H : GH) : M (Value × GH) :=
  onV (gLoad Tryd.prog 24 (.pointer (some ⟨H.n, 0, none⟩)) (GH.push (GH.push H (.row (Value.cells p0).toList 24 false)) (.row [(.slice none 0 0), (.bool false), (.bool false), (.int .i64 0)] 55 false))) fun v1 =>
  onV (oLen Tryd.prog 24 v1) fun v2 =>
  onV ((oBin Tryd.prog .lss 3 v2 (.int .i64 4)).filter closed) fun v3 =>
  (f23_g1_4 call k v3 p0 (.pointer (some ⟨H.n, 0, none⟩)) (.pointer (some ⟨(GH.push H (.row (Value.cells p0).toList 24 false)).n, 0, none⟩)) v1 v2 v3 (GH.push (GH.push H (.row (Value.cells p0).toList 24 false)) (.row [(.slice none 0 0), (.bool false), (.bool false), (.int .i64 0)] 55 false)))
theorem f23_run (call : Handle) (k : Nat) (p0 : Value) (H : GH) : g23 call k [] (FG 124 (fun _ => undef) [(0, p0)]) H (hFin Tryd.prog Tryd.f23) = f23_sh call k p0 H := by
  unfold f23_sh
  rw [n23_0]
  rw [n23_1]
  rw [s23_0]
  rw [hSeq_n]
  rw [n23_2]
  rw [n23_3]
  rw [n23_4]
  rw [o23_s 0 4, s23_1]
  refine onV_c fun v1 => ?_
  refine onV_c fun v2 => ?_
  refine onV_c fun v3 => ?_
  generalize e : (FG 124 (fun _ => undef) [(15, v3), (14, v3), (13, v2), (12, v1), (2, (.pointer (some ⟨(GH.push H (.row (Value.cells p0).toList 24 false)).n, 0, none⟩))), (1, (.pointer (some ⟨H.n, 0, none⟩))), (0, p0)]) = a
  rw [show a = (FG 124 (gf a) [(123, undef), (122, undef), (121, undef), (120, undef), (119, undef), (118, undef), (117, undef), (116, undef), (115, undef), (114, undef), (113, undef), (112, undef), (111, undef), (110, undef), (109, undef), (108, undef), (107, undef), (106, undef), (105, undef), (104, undef), (103, undef), (102, undef), (101, undef), (100, undef), (99, undef), (98, undef), (97, undef), (96, undef), (95, undef), (94, undef), (93, undef), (92, undef), (91, undef), (90, undef), (86, undef), (85, undef), (84, undef), (83, undef), (82, undef), (81, undef), (80, undef), (79, undef), (78, undef), (75, undef), (74, undef), (59, undef), (58, undef), (23, undef), (22, undef), (15, v3), (11, undef), (10, undef)]) from (FG_eq (by subst e; exact FG_len) (FS_cons (by subst e; kernel_rfl) (FS_cons (by subst e; kernel_rfl) (FS_cons (by subst e; kernel_rfl) (FS_cons (by subst e; kernel_rfl) (FS_cons (by subst e; kernel_rfl) (FS_cons (by subst e; kernel_rfl) (FS_cons (by subst e; kernel_rfl) (FS_cons (by subst e; kernel_rfl) (FS_cons (by subst e; kernel_rfl) (FS_cons (by subst e; kernel_rfl) (FS_cons (by subst e; kernel_rfl) (FS_cons (by subst e; kernel_rfl) (FS_cons (by subst e; kernel_rfl) (FS_cons (by subst e; kernel_rfl) (FS_cons (by subst e; kernel_rfl) (FS_cons (by subst e; kernel_rfl) (FS_cons (by subst e; kernel_rfl) (FS_cons (by subst e; kernel_rfl) (FS_cons (by subst e; kernel_rfl) (FS_cons (by subst e; kernel_rfl) (FS_cons (by subst e; kernel_rfl) (FS_cons (by subst e; kernel_rfl) (FS_cons (by subst e; kernel_rfl) (FS_cons (by subst e; kernel_rfl) (FS_cons (by subst e; kernel_rfl) (FS_cons (by subst e; kernel_rfl) (FS_cons (by subst e; kernel_rfl) (FS_cons (by subst e; kernel_rfl) (FS_cons (by subst e; kernel_rfl) (FS_cons (by subst e; kernel_rfl) (FS_cons (by subst e; kernel_rfl) (FS_cons (by subst e; kernel_rfl) (FS_cons (by subst e; kernel_rfl) (FS_cons (by subst e; kernel_rfl) (FS_cons (by subst e; kernel_rfl) (FS_cons (by subst e; kernel_rfl) (FS_cons (by subst e; kernel_rfl) (FS_cons (by subst e; kernel_rfl) (FS_cons (by subst e; kernel_rfl) (FS_cons (by subst e; kernel_rfl) (FS_cons (by subst e; kernel_rfl) (FS_cons (by subst e; kernel_rfl) (FS_cons (by subst e; kernel_rfl) (FS_cons (by subst e; kernel_rfl) (FS_cons (by subst e; kernel_rfl) (FS_cons (by subst e; kernel_rfl) (FS_cons (by subst e; kernel_rfl) (FS_cons (by subst e; kernel_rfl) (FS_cons (by subst e; kernel_rfl) (FS_cons (by subst e; kernel_rfl) (FS_cons (by subst e; kernel_rfl) (FS_cons (by subst e; kernel_rfl) (FS_nil)))))))))))))))))))))))))))))))))))))))))))))))))))))).symm]
  exact (f23_g1_4_eq (d := gf a) call k).trans (by subst e; kernel_rfl)
theorem f23_eq (call : Handle) (k : Nat) (p0 : Value) (H : GH) : gFunc Tryd.prog call k Tryd.f23 [p0] H = f23_sh call k p0 H :=
  Eq.trans (by kernel_rfl) (f23_run call k p0 H)
end
end Go.Proofs.YtdhadannleldiaaDoor
