/- PRINTED by sh.py: shallow forms of functions of the program, each proved equal to what the ghost machine makes of its code. -/
import Derived.Test.YtdhadannleldiaaDoorGkTop
import Derived.Test.YtdhadannleldiaaDoorProg
namespace Go.Proofs.YtdhadannleldiaaDoor
open Go.Gh
set_option linter.unusedVariables false
set_option linter.unusedSimpArgs false
set_option maxRecDepth 100000
noncomputable def g3 {β : Type} (call : Handle) (k : Nat) (p : List Nat) : GA → GH → Kont β → M β := gCode Tryd.prog call k (fAt Tryd.f3 p)
noncomputable def o3 {β : Type} (d : Nat) (call : Handle) (p : List Nat) (i : Nat) : GA → GH → (GA → GH → M β) → M β := gOps Tryd.prog d call (opsAt (fAt Tryd.f3 p)) i ((opsAt (fAt Tryd.f3 p)).drop i)
noncomputable def t3 {β : Type} (d : Nat) (call : Handle) (p : List Nat) (i n : Nat) : GA → GH → (GA → GH → M β) → M β := gOps Tryd.prog d call (opsAt (fAt Tryd.f3 p)) i (((opsAt (fAt Tryd.f3 p)).drop i).take n)
theorem o3_s {β : Type} {d : Nat} {call : Handle} {p : List Nat} {a : GA} {H : GH} {K : GA → GH → M β} (i n : Nat) : o3 d call p i a H K = t3 d call p i n a H fun a H => o3 d call p (i + n) a H K := gOps_split i n
section
variable {β : Type} {call : Handle} {k : Nat} {a : GA} {K : Kont β} {K' : GA → GH → M β}
variable {d : Nat → Value} {xg : Value}
variable {p0 p1 : Value}
variable {v1 v2 v3 v4 v5 v7 : Value}
variable {H H2 H3 H4 H6 H8 : GH}
theorem n3_0 : g3 call k [] a H K = g3 call k [0] a H (hSeq (g3 call k [1]) K) := at_seq (by kernel_rfl)
theorem n3_1 : g3 call k [0] a H K = o3 0 call [0] 0 a H (K .normal) := at_region (by kernel_rfl)
theorem n3_2 : g3 call k [1] a H K = g3 call k [1,0] a H (hSeq (g3 call k [1,1]) K) := at_seq (by kernel_rfl)
theorem n3_3 : g3 call k [1,0] a H K = g3 call k [1,0,0] a H (hSeq (g3 call k [1,0,1]) K) := at_seq (by kernel_rfl)
theorem n3_4 : g3 call k [1,0,0] a H K = o3 0 call [1,0,0] 0 a H (K .normal) := at_region (by kernel_rfl)
theorem n3_5 : g3 call k [1,0,1] a H K = onBool (asB (GA.eval a (.tmp 34))) (g3 call k [1,0,1,0] a H K) (g3 call k [1,0,1,1] a H K) := at_cond (by kernel_rfl)
theorem n3_6 : g3 call k [1,0,1,0] a H K = g3 call k [1,0,1,0,0] a H (hSeq (g3 call k [1,0,1,0,1]) K) := at_seq (by kernel_rfl)
theorem n3_7 : g3 call k [1,0,1,0,0] a H K = o3 0 call [1,0,1,0,0] 0 a H (K .normal) := at_region (by kernel_rfl)
theorem n3_8 : g3 call k [1,0,1,0,1] a H K = K .ret a H := at_ret (by kernel_rfl)
theorem n3_9 : g3 call k [1,0,1,1] a H K = K .normal a H := at_skip (by kernel_rfl)
theorem n3_10 : g3 call k [1,1] a H K = g3 call k [1,1,0] a H (hSeq (g3 call k [1,1,1]) K) := at_seq (by kernel_rfl)
theorem n3_11 : g3 call k [1,1,0] a H K = o3 0 call [1,1,0] 0 a H (K .normal) := at_region (by kernel_rfl)
theorem n3_12 : g3 call k [1,1,1] a H K = g3 call k [1,1,1,0] a H (hSeq (g3 call k [1,1,1,1]) K) := at_seq (by kernel_rfl)
theorem n3_13 : g3 call k [1,1,1,0] a H K = o3 0 call [1,1,1,0] 0 a H (K .normal) := at_region (by kernel_rfl)
theorem n3_14 : g3 call k [1,1,1,1] a H K = g3 call k [1,1,1,1,0] a H (hSeq (g3 call k [1,1,1,1,1]) K) := at_seq (by kernel_rfl)
theorem n3_15 : g3 call k [1,1,1,1,0] a H K = o3 0 call [1,1,1,1,0] 0 a H (K .normal) := at_region (by kernel_rfl)
theorem n3_16 : g3 call k [1,1,1,1,1] a H K = g3 call k [1,1,1,1,1,0] a H (hSeq (g3 call k [1,1,1,1,1,1]) K) := at_seq (by kernel_rfl)
theorem n3_17 : g3 call k [1,1,1,1,1,0] a H K = o3 0 call [1,1,1,1,1,0] 0 a H (K .normal) := at_region (by kernel_rfl)
theorem n3_18 : g3 call k [1,1,1,1,1,1] a H K = g3 call k [1,1,1,1,1,1,0] a H (hSeq (g3 call k [1,1,1,1,1,1,1]) K) := at_seq (by kernel_rfl)
theorem n3_19 : g3 call k [1,1,1,1,1,1,0] a H K = g3 call k [1,1,1,1,1,1,0,0] a H (hSeq (g3 call k [1,1,1,1,1,1,0,1]) K) := at_seq (by kernel_rfl)
theorem n3_20 : g3 call k [1,1,1,1,1,1,0,0] a H K = o3 0 call [1,1,1,1,1,1,0,0] 0 a H (K .normal) := at_region (by kernel_rfl)
theorem n3_21 : g3 call k [1,1,1,1,1,1,0,1] a H K = g3 call k [1,1,1,1,1,1,0,1,0] a H (hBlock 0 K) := at_block (by kernel_rfl)
theorem n3_22 : g3 call k [1,1,1,1,1,1,0,1,0] a H K = gLoop (g3 call k [1,1,1,1,1,1,0,1,0,0]) K k a H := at_loop (by kernel_rfl)
theorem n3_23 : g3 call k [1,1,1,1,1,1,0,1,0,0] a H K = g3 call k [1,1,1,1,1,1,0,1,0,0,0] a H (hSeq (g3 call k [1,1,1,1,1,1,0,1,0,0,1]) K) := at_seq (by kernel_rfl)
theorem n3_24 : g3 call k [1,1,1,1,1,1,0,1,0,0,0] a H K = g3 call k [1,1,1,1,1,1,0,1,0,0,0,0] a H (hSeq (g3 call k [1,1,1,1,1,1,0,1,0,0,0,1]) K) := at_seq (by kernel_rfl)
theorem n3_25 : g3 call k [1,1,1,1,1,1,0,1,0,0,0,0] a H K = o3 0 call [1,1,1,1,1,1,0,1,0,0,0,0] 0 a H (K .normal) := at_region (by kernel_rfl)
theorem n3_26 : g3 call k [1,1,1,1,1,1,0,1,0,0,0,1] a H K = onBool (asB (GA.eval a (.tmp 42))) (g3 call k [1,1,1,1,1,1,0,1,0,0,0,1,0] a H K) (g3 call k [1,1,1,1,1,1,0,1,0,0,0,1,1] a H K) := at_cond (by kernel_rfl)
theorem n3_27 : g3 call k [1,1,1,1,1,1,0,1,0,0,0,1,0] a H K = K .normal a H := at_skip (by kernel_rfl)
theorem n3_28 : g3 call k [1,1,1,1,1,1,0,1,0,0,1] a H K = g3 call k [1,1,1,1,1,1,0,1,0,0,1,0] a H (hSeq (g3 call k [1,1,1,1,1,1,0,1,0,0,1,1]) K) := at_seq (by kernel_rfl)
theorem n3_29 : g3 call k [1,1,1,1,1,1,0,1,0,0,1,0] a H K = g3 call k [1,1,1,1,1,1,0,1,0,0,1,0,0] a H (hBlock 1 K) := at_block (by kernel_rfl)
theorem n3_30 : g3 call k [1,1,1,1,1,1,0,1,0,0,1,0,0] a H K = g3 call k [1,1,1,1,1,1,0,1,0,0,1,0,0,0] a H (hSeq (g3 call k [1,1,1,1,1,1,0,1,0,0,1,0,0,1]) K) := at_seq (by kernel_rfl)
theorem n3_31 : g3 call k [1,1,1,1,1,1,0,1,0,0,1,0,0,0] a H K = o3 0 call [1,1,1,1,1,1,0,1,0,0,1,0,0,0] 0 a H (K .normal) := at_region (by kernel_rfl)
theorem n3_32 : g3 call k [1,1,1,1,1,1,0,1,0,0,1,0,0,1] a H K = g3 call k [1,1,1,1,1,1,0,1,0,0,1,0,0,1,0] a H (hSeq (g3 call k [1,1,1,1,1,1,0,1,0,0,1,0,0,1,1]) K) := at_seq (by kernel_rfl)
theorem n3_33 : g3 call k [1,1,1,1,1,1,0,1,0,0,1,0,0,1,0] a H K = g3 call k [1,1,1,1,1,1,0,1,0,0,1,0,0,1,0,0] a H (hSeq (g3 call k [1,1,1,1,1,1,0,1,0,0,1,0,0,1,0,1]) K) := at_seq (by kernel_rfl)
theorem n3_34 : g3 call k [1,1,1,1,1,1,0,1,0,0,0,1,1] a H K = K (.exit 0) a H := at_exit (by kernel_rfl)
theorem n3_35 : g3 call k [1,1,1,1,1,1,0,1,0,0,1,0,0,1,0,0] a H K = o3 0 call [1,1,1,1,1,1,0,1,0,0,1,0,0,1,0,0] 0 a H (K .normal) := at_region (by kernel_rfl)
theorem n3_36 : g3 call k [1,1,1,1,1,1,1] a H K = g3 call k [1,1,1,1,1,1,1,0] a H (hSeq (g3 call k [1,1,1,1,1,1,1,1]) K) := at_seq (by kernel_rfl)
theorem n3_37 : g3 call k [1,1,1,1,1,1,1,0] a H K = o3 0 call [1,1,1,1,1,1,1,0] 0 a H (K .normal) := at_region (by kernel_rfl)
theorem n3_38 : g3 call k [1,1,1,1,1,1,1,1] a H K = g3 call k [1,1,1,1,1,1,1,1,0] a H (hSeq (g3 call k [1,1,1,1,1,1,1,1,1]) K) := at_seq (by kernel_rfl)
theorem n3_39 : g3 call k [1,1,1,1,1,1,1,1,0] a H K = o3 0 call [1,1,1,1,1,1,1,1,0] 0 a H (K .normal) := at_region (by kernel_rfl)
theorem n3_40 : g3 call k [1,1,1,1,1,1,1,1,1] a H K = g3 call k [1,1,1,1,1,1,1,1,1,0] a H (hSeq (g3 call k [1,1,1,1,1,1,1,1,1,1]) K) := at_seq (by kernel_rfl)
theorem n3_41 : g3 call k [1,1,1,1,1,1,0,1,0,0,1,0,0,1,0,1] a H K = onBool (asB (GA.eval a (.tmp 62))) (g3 call k [1,1,1,1,1,1,0,1,0,0,1,0,0,1,0,1,0] a H K) (g3 call k [1,1,1,1,1,1,0,1,0,0,1,0,0,1,0,1,1] a H K) := at_cond (by kernel_rfl)
theorem n3_42 : g3 call k [1,1,1,1,1,1,0,1,0,0,1,0,0,1,0,1,1] a H K = K .normal a H := at_skip (by kernel_rfl)
theorem n3_43 : g3 call k [1,1,1,1,1,1,0,1,0,0,1,0,0,1,1] a H K = g3 call k [1,1,1,1,1,1,0,1,0,0,1,0,0,1,1,0] a H (hSeq (g3 call k [1,1,1,1,1,1,0,1,0,0,1,0,0,1,1,1]) K) := at_seq (by kernel_rfl)
theorem n3_44 : g3 call k [1,1,1,1,1,1,1,1,1,0] a H K = o3 0 call [1,1,1,1,1,1,1,1,1,0] 0 a H (K .normal) := at_region (by kernel_rfl)
theorem n3_45 : g3 call k [1,1,1,1,1,1,1,1,1,1] a H K = g3 call k [1,1,1,1,1,1,1,1,1,1,0] a H (hSeq (g3 call k [1,1,1,1,1,1,1,1,1,1,1]) K) := at_seq (by kernel_rfl)
theorem n3_46 : g3 call k [1,1,1,1,1,1,1,1,1,1,0] a H K = o3 0 call [1,1,1,1,1,1,1,1,1,1,0] 0 a H (K .normal) := at_region (by kernel_rfl)
theorem n3_47 : g3 call k [1,1,1,1,1,1,1,1,1,1,1] a H K = g3 call k [1,1,1,1,1,1,1,1,1,1,1,0] a H (hSeq (g3 call k [1,1,1,1,1,1,1,1,1,1,1,1]) K) := at_seq (by kernel_rfl)
theorem n3_48 : g3 call k [1,1,1,1,1,1,0,1,0,0,1,0,0,1,0,1,0] a H K = o3 0 call [1,1,1,1,1,1,0,1,0,0,1,0,0,1,0,1,0] 0 a H (K .normal) := at_region (by kernel_rfl)
theorem n3_49 : g3 call k [1,1,1,1,1,1,0,1,0,0,1,0,0,1,1,0] a H K = o3 0 call [1,1,1,1,1,1,0,1,0,0,1,0,0,1,1,0] 0 a H (K .normal) := at_region (by kernel_rfl)
theorem n3_50 : g3 call k [1,1,1,1,1,1,0,1,0,0,1,0,0,1,1,1] a H K = g3 call k [1,1,1,1,1,1,0,1,0,0,1,0,0,1,1,1,0] a H (hSeq (g3 call k [1,1,1,1,1,1,0,1,0,0,1,0,0,1,1,1,1]) K) := at_seq (by kernel_rfl)
theorem n3_51 : g3 call k [1,1,1,1,1,1,1,1,1,1,1,0] a H K = o3 3 call [1,1,1,1,1,1,1,1,1,1,1,0] 0 a H (K .normal) := at_region (by kernel_rfl)
theorem n3_52 : g3 call k [1,1,1,1,1,1,0,1,0,0,1,0,0,1,1,1,0] a H K = o3 0 call [1,1,1,1,1,1,0,1,0,0,1,0,0,1,1,1,0] 0 a H (K .normal) := at_region (by kernel_rfl)
theorem n3_53 : g3 call k [1,1,1,1,1,1,0,1,0,0,1,0,0,1,1,1,1] a H K = g3 call k [1,1,1,1,1,1,0,1,0,0,1,0,0,1,1,1,1,0] a H (hSeq (g3 call k [1,1,1,1,1,1,0,1,0,0,1,0,0,1,1,1,1,1]) K) := at_seq (by kernel_rfl)
theorem n3_54 : g3 call k [1,1,1,1,1,1,0,1,0,0,1,0,0,1,1,1,1,0] a H K = g3 call k [1,1,1,1,1,1,0,1,0,0,1,0,0,1,1,1,1,0,0] a H (hSeq (g3 call k [1,1,1,1,1,1,0,1,0,0,1,0,0,1,1,1,1,0,1]) K) := at_seq (by kernel_rfl)
theorem n3_55 : g3 call k [1,1,1,1,1,1,0,1,0,0,1,0,0,1,1,1,1,0,0] a H K = o3 0 call [1,1,1,1,1,1,0,1,0,0,1,0,0,1,1,1,1,0,0] 0 a H (K .normal) := at_region (by kernel_rfl)
theorem n3_56 : g3 call k [1,1,1,1,1,1,0,1,0,0,1,0,0,1,1,1,1,0,1] a H K = g3 call k [1,1,1,1,1,1,0,1,0,0,1,0,0,1,1,1,1,0,1,0] a H (hBlock 2 K) := at_block (by kernel_rfl)
theorem n3_57 : g3 call k [1,1,1,1,1,1,0,1,0,0,1,0,0,1,1,1,1,0,1,0] a H K = gLoop (g3 call k [1,1,1,1,1,1,0,1,0,0,1,0,0,1,1,1,1,0,1,0,0]) K k a H := at_loop (by kernel_rfl)
theorem n3_58 : g3 call k [1,1,1,1,1,1,1,1,1,1,1,1] a H K = K .ret a H := at_ret (by kernel_rfl)
theorem n3_59 : g3 call k [1,1,1,1,1,1,0,1,0,0,1,0,0,1,1,1,1,0,1,0,0] a H K = g3 call k [1,1,1,1,1,1,0,1,0,0,1,0,0,1,1,1,1,0,1,0,0,0] a H (hSeq (g3 call k [1,1,1,1,1,1,0,1,0,0,1,0,0,1,1,1,1,0,1,0,0,1]) K) := at_seq (by kernel_rfl)
theorem n3_60 : g3 call k [1,1,1,1,1,1,0,1,0,0,1,0,0,1,1,1,1,0,1,0,0,0] a H K = g3 call k [1,1,1,1,1,1,0,1,0,0,1,0,0,1,1,1,1,0,1,0,0,0,0] a H (hSeq (g3 call k [1,1,1,1,1,1,0,1,0,0,1,0,0,1,1,1,1,0,1,0,0,0,1]) K) := at_seq (by kernel_rfl)
theorem n3_61 : g3 call k [1,1,1,1,1,1,0,1,0,0,1,0,0,1,1,1,1,0,1,0,0,0,0] a H K = o3 0 call [1,1,1,1,1,1,0,1,0,0,1,0,0,1,1,1,1,0,1,0,0,0,0] 0 a H (K .normal) := at_region (by kernel_rfl)
theorem n3_62 : g3 call k [1,1,1,1,1,1,0,1,0,0,1,0,0,1,1,1,1,0,1,0,0,0,1] a H K = onBool (asB (GA.eval a (.tmp 90))) (g3 call k [1,1,1,1,1,1,0,1,0,0,1,0,0,1,1,1,1,0,1,0,0,0,1,0] a H K) (g3 call k [1,1,1,1,1,1,0,1,0,0,1,0,0,1,1,1,1,0,1,0,0,0,1,1] a H K) := at_cond (by kernel_rfl)
theorem n3_63 : g3 call k [1,1,1,1,1,1,0,1,0,0,1,0,0,1,1,1,1,0,1,0,0,0,1,0] a H K = K .normal a H := at_skip (by kernel_rfl)
theorem n3_64 : g3 call k [1,1,1,1,1,1,0,1,0,0,1,0,0,1,1,1,1,0,1,0,0,1] a H K = g3 call k [1,1,1,1,1,1,0,1,0,0,1,0,0,1,1,1,1,0,1,0,0,1,0] a H (hSeq (g3 call k [1,1,1,1,1,1,0,1,0,0,1,0,0,1,1,1,1,0,1,0,0,1,1]) K) := at_seq (by kernel_rfl)
theorem n3_65 : g3 call k [1,1,1,1,1,1,0,1,0,0,1,0,0,1,1,1,1,0,1,0,0,1,0] a H K = g3 call k [1,1,1,1,1,1,0,1,0,0,1,0,0,1,1,1,1,0,1,0,0,1,0,0] a H (hBlock 3 K) := at_block (by kernel_rfl)
theorem n3_66 : g3 call k [1,1,1,1,1,1,0,1,0,0,1,0,0,1,1,1,1,0,1,0,0,1,0,0] a H K = o3 0 call [1,1,1,1,1,1,0,1,0,0,1,0,0,1,1,1,1,0,1,0,0,1,0,0] 0 a H (K .normal) := at_region (by kernel_rfl)
theorem n3_67 : g3 call k [1,1,1,1,1,1,0,1,0,0,1,0,0,1,1,1,1,0,1,0,0,1,1] a H K = o3 0 call [1,1,1,1,1,1,0,1,0,0,1,0,0,1,1,1,1,0,1,0,0,1,1] 0 a H (K .normal) := at_region (by kernel_rfl)
theorem n3_68 : g3 call k [1,1,1,1,1,1,0,1,0,0,1,0,0,1,1,1,1,0,1,0,0,0,1,1] a H K = K (.exit 2) a H := at_exit (by kernel_rfl)
theorem n3_69 : g3 call k [1,1,1,1,1,1,0,1,0,0,1,0,0,1,1,1,1,1] a H K = g3 call k [1,1,1,1,1,1,0,1,0,0,1,0,0,1,1,1,1,1,0] a H (hSeq (g3 call k [1,1,1,1,1,1,0,1,0,0,1,0,0,1,1,1,1,1,1]) K) := at_seq (by kernel_rfl)
theorem n3_70 : g3 call k [1,1,1,1,1,1,0,1,0,0,1,0,0,1,1,1,1,1,0] a H K = o3 0 call [1,1,1,1,1,1,0,1,0,0,1,0,0,1,1,1,1,1,0] 0 a H (K .normal) := at_region (by kernel_rfl)
theorem n3_71 : g3 call k [1,1,1,1,1,1,0,1,0,0,1,0,0,1,1,1,1,1,1] a H K = g3 call k [1,1,1,1,1,1,0,1,0,0,1,0,0,1,1,1,1,1,1,0] a H (hSeq (g3 call k [1,1,1,1,1,1,0,1,0,0,1,0,0,1,1,1,1,1,1,1]) K) := at_seq (by kernel_rfl)
theorem n3_72 : g3 call k [1,1,1,1,1,1,0,1,0,0,1,0,0,1,1,1,1,1,1,0] a H K = o3 0 call [1,1,1,1,1,1,0,1,0,0,1,0,0,1,1,1,1,1,1,0] 0 a H (K .normal) := at_region (by kernel_rfl)
theorem n3_73 : g3 call k [1,1,1,1,1,1,0,1,0,0,1,0,0,1,1,1,1,1,1,1] a H K = g3 call k [1,1,1,1,1,1,0,1,0,0,1,0,0,1,1,1,1,1,1,1,0] a H (hSeq (g3 call k [1,1,1,1,1,1,0,1,0,0,1,0,0,1,1,1,1,1,1,1,1]) K) := at_seq (by kernel_rfl)
theorem n3_74 : g3 call k [1,1,1,1,1,1,0,1,0,0,1,0,0,1,1,1,1,1,1,1,0] a H K = o3 0 call [1,1,1,1,1,1,0,1,0,0,1,0,0,1,1,1,1,1,1,1,0] 0 a H (K .normal) := at_region (by kernel_rfl)
theorem n3_75 : g3 call k [1,1,1,1,1,1,0,1,0,0,1,0,0,1,1,1,1,1,1,1,1] a H K = g3 call k [1,1,1,1,1,1,0,1,0,0,1,0,0,1,1,1,1,1,1,1,1,0] a H (hSeq (g3 call k [1,1,1,1,1,1,0,1,0,0,1,0,0,1,1,1,1,1,1,1,1,1]) K) := at_seq (by kernel_rfl)
theorem n3_76 : g3 call k [1,1,1,1,1,1,0,1,0,0,1,0,0,1,1,1,1,1,1,1,1,0] a H K = g3 call k [1,1,1,1,1,1,0,1,0,0,1,0,0,1,1,1,1,1,1,1,1,0,0] a H (hSeq (g3 call k [1,1,1,1,1,1,0,1,0,0,1,0,0,1,1,1,1,1,1,1,1,0,1]) K) := at_seq (by kernel_rfl)
theorem n3_77 : g3 call k [1,1,1,1,1,1,0,1,0,0,1,0,0,1,1,1,1,1,1,1,1,0,0] a H K = o3 0 call [1,1,1,1,1,1,0,1,0,0,1,0,0,1,1,1,1,1,1,1,1,0,0] 0 a H (K .normal) := at_region (by kernel_rfl)
theorem n3_78 : g3 call k [1,1,1,1,1,1,0,1,0,0,1,0,0,1,1,1,1,1,1,1,1,0,1] a H K = onBool (asB (GA.eval a (.tmp 135))) (g3 call k [1,1,1,1,1,1,0,1,0,0,1,0,0,1,1,1,1,1,1,1,1,0,1,0] a H K) (g3 call k [1,1,1,1,1,1,0,1,0,0,1,0,0,1,1,1,1,1,1,1,1,0,1,1] a H K) := at_cond (by kernel_rfl)
theorem n3_79 : g3 call k [1,1,1,1,1,1,0,1,0,0,1,0,0,1,1,1,1,1,1,1,1,0,1,0] a H K = g3 call k [1,1,1,1,1,1,0,1,0,0,1,0,0,1,1,1,1,1,1,1,1,0,1,0,0] a H (hSeq (g3 call k [1,1,1,1,1,1,0,1,0,0,1,0,0,1,1,1,1,1,1,1,1,0,1,0,1]) K) := at_seq (by kernel_rfl)
theorem n3_80 : g3 call k [1,1,1,1,1,1,0,1,0,0,1,0,0,1,1,1,1,1,1,1,1,0,1,0,0] a H K = o3 0 call [1,1,1,1,1,1,0,1,0,0,1,0,0,1,1,1,1,1,1,1,1,0,1,0,0] 0 a H (K .normal) := at_region (by kernel_rfl)
theorem n3_81 : g3 call k [1,1,1,1,1,1,0,1,0,0,1,0,0,1,1,1,1,1,1,1,1,0,1,0,1] a H K = K .ret a H := at_ret (by kernel_rfl)
theorem n3_82 : g3 call k [1,1,1,1,1,1,0,1,0,0,1,0,0,1,1,1,1,1,1,1,1,0,1,1] a H K = K .normal a H := at_skip (by kernel_rfl)
theorem n3_83 : g3 call k [1,1,1,1,1,1,0,1,0,0,1,0,0,1,1,1,1,1,1,1,1,1] a H K = o3 0 call [1,1,1,1,1,1,0,1,0,0,1,0,0,1,1,1,1,1,1,1,1,1] 0 a H (K .normal) := at_region (by kernel_rfl)
theorem n3_84 : g3 call k [1,1,1,1,1,1,0,1,0,0,1,1] a H K = o3 0 call [1,1,1,1,1,1,0,1,0,0,1,1] 0 a H (K .normal) := at_region (by kernel_rfl)
theorem s3_0 : o3 0 call [0] 0 (FG 190 (fun _ => undef) [(1, p1), (0, p0)]) H K' =
  K' (FG 190 (fun _ => undef) [(4, (.bool false)), (1, p1), (0, p0)]) H := by kernel_rfl
theorem s3_1 : t3 0 call [1,0,0] 0 4 (FG 190 (fun _ => undef) [(4, (.bool false)), (1, p1), (0, p0)]) H K' =
  onV (oLen Tryd.prog 23 p0) fun v1 =>
  onV ((oBin Tryd.prog .gtr 3 v1 (.int .i64 80)).filter closed) fun v2 =>
  onGrd true v2 (K' (FG 190 (fun _ => undef) [(30, v2), (29, v2), (28, v1), (27, p0), (4, (.bool false)), (1, p1), (0, p0)]) H) := by kernel_rfl
theorem s3_2 : o3 0 call [1,0,0] 4 (FG 190 d [(30, (.bool true))]) H K' =
  K' (FG 190 d [(34, (.bool true)), (33, undef), (32, undef), (31, undef), (30, (.bool true))]) H := by kernel_rfl
theorem s3_3 : o3 0 call [1,0,1,0,0] 0 (FG 190 d [(34, (.bool true)), (33, undef), (32, undef), (31, undef), (30, (.bool true))]) H K' =
  onCall 0 call (.func (.func 4) #[] #[]) [] H fun v1 H2 =>
  K' (FG 190 d [(4, v1), (35, v1), (34, (.bool true)), (33, undef), (32, undef), (31, undef), (30, (.bool true))]) H2 := by kernel_rfl
theorem s3_4 : o3 0 call [1,0,0] 4 (FG 190 d [(30, (.bool false))]) H K' =
  onV (oLen Tryd.prog 24 (d 1)) fun v1 =>
  onV ((oBin Tryd.prog .gtr 3 v1 (.int .i64 20)).filter closed) fun v2 =>
  K' (FG 190 d [(34, v2), (33, v2), (32, v1), (31, (d 1)), (30, (.bool false))]) H := by kernel_rfl
theorem s3_5 : o3 0 call [1,0,1,0,0] 0 (FG 190 d [(34, v2), (33, v2), (32, v1), (31, (d 1)), (30, (.bool false))]) H K' =
  onCall 0 call (.func (.func 4) #[] #[]) [] H fun v3 H4 =>
  K' (FG 190 d [(4, v3), (35, v3), (34, v2), (33, v2), (32, v1), (31, (d 1)), (30, (.bool false))]) H4 := by kernel_rfl
theorem s3_6 : o3 0 call [1,1,0] 0 (FG 190 d [(34, v2), (33, v2), (32, v1), (31, (d 1)), (30, (.bool false))]) H K' =
  onCall 0 call (.func (.func 5) #[] #[]) [(d 0)] H fun v5 H6 =>
  K' (FG 190 d [(5, v5), (37, v5), (36, (d 0)), (34, v2), (33, v2), (32, v1), (31, (d 1)), (30, (.bool false))]) H6 := by kernel_rfl
theorem s3_7 : o3 0 call [1,1,1,0] 0 (FG 190 d [(5, v5), (37, v5), (36, (d 0)), (34, v2), (33, v2), (32, v1), (31, (d 1)), (30, (.bool false))]) H6 K' =
  K' (FG 190 d [(6, (.slice none 0 0)), (5, v5), (37, v5), (36, (d 0)), (34, v2), (33, v2), (32, v1), (31, (d 1)), (30, (.bool false))]) H6 := by kernel_rfl
theorem s3_8 : o3 0 call [1,1,1,1,0] 0 (FG 190 d [(6, (.slice none 0 0)), (5, v5), (37, v5), (36, (d 0)), (34, v2), (33, v2), (32, v1), (31, (d 1)), (30, (.bool false))]) H6 K' =
  onVH (gBuildSlice Tryd.prog 24 4 [(0, (.int .u8 71)), (1, (.int .u8 84)), (2, (.int .u8 1)), (3, (.int .u8 0))] H6) fun v7 H8 =>
  K' (FG 190 d [(7, v7), (38, v7), (6, (.slice none 0 0)), (5, v5), (37, v5), (36, (d 0)), (34, v2), (33, v2), (32, v1), (31, (d 1)), (30, (.bool false))]) H8 := by kernel_rfl
theorem s3_9 : o3 0 call [1,1,1,1,1,0] 0 (FG 190 d [(7, v7), (38, v7), (6, (.slice none 0 0)), (5, v5), (37, v5), (36, (d 0)), (34, v2), (33, v2), (32, v1), (31, (d 1)), (30, (.bool false))]) H8 K' =
  K' (FG 190 d [(8, (.int .i64 0)), (7, v7), (38, v7), (6, (.slice none 0 0)), (5, v5), (37, v5), (36, (d 0)), (34, v2), (33, v2), (32, v1), (31, (d 1)), (30, (.bool false))]) H8 := by kernel_rfl
theorem s3_10 : o3 0 call [1,1,1,1,1,1,0,0] 0 (FG 190 d [(8, (.int .i64 0)), (7, v7), (38, v7), (6, (.slice none 0 0)), (5, v5), (37, v5), (36, (d 0)), (34, v2), (33, v2), (32, v1), (31, (d 1)), (30, (.bool false))]) H8 K' =
  K' (FG 190 d [(9, (.int .i64 0)), (8, (.int .i64 0)), (7, v7), (38, v7), (6, (.slice none 0 0)), (5, v5), (37, v5), (36, (d 0)), (34, v2), (33, v2), (32, v1), (31, (d 1)), (30, (.bool false))]) H8 := by kernel_rfl
theorem s3_11 : o3 0 call [1,1,1,1,1,1,0,1,0,0,0,0] 0 (FF 190 d) H K' =
  onV (oLen Tryd.prog 24 (d 1)) fun v1 =>
  onV ((oBin Tryd.prog .leq 3 (d 9) v1).filter closed) fun v2 =>
  K' (FG 190 d [(42, v2), (41, v1), (40, (d 1)), (39, (d 9))]) H := by kernel_rfl
theorem s3_12 : o3 0 call [1,1,1,1,1,1,0,1,0,0,1,0,0,0] 0 (FG 190 d [(42, v2), (41, v1), (40, (d 1)), (39, (d 9))]) H K' =
  onV (oLen Tryd.prog 26 (d 5)) fun v3 =>
  onV ((oBin Tryd.prog .sub 3 v3 (d 8)).filter closed) fun v4 =>
  K' (FG 190 d [(10, v4), (48, v4), (47, (d 8)), (46, v3), (45, (d 5)), (42, v2), (41, v1), (40, (d 1)), (39, (d 9))]) H := by kernel_rfl
theorem s3_13 : t3 0 call [1,1,1,1,1,1,0,1,0,0,1,0,0,1,0,0] 0 5 (FF 190 d) H K' =
  onV (oLen Tryd.prog 24 (d 1)) fun v1 =>
  onV ((oBin Tryd.prog .lss 3 (d 9) v1).filter closed) fun v2 =>
  onGrd true v2 (K' (FG 190 d [(53, v2), (52, v2), (51, v1), (50, (d 1)), (49, (d 9))]) H) := by kernel_rfl
theorem s3_14 : o3 0 call [1,1,1,1,1,1,1,0] 0 (FF 190 d) H K' =
  onCall 0 call (.func (.func 11) #[] #[]) [(d 6)] H fun v1 H2 =>
  onV (oExtract v1 0) fun v3 =>
  onV (oExtract v1 1) fun v4 =>
  K' (FG 190 d [(20, v4), (19, v3), (141, v4), (140, v3), (137, v1), (139, v1), (138, (d 6))]) H2 := by kernel_rfl
theorem s3_15 : o3 0 call [1,1,1,1,1,1,1,1,0] 0 (FG 190 d [(20, v4), (19, v3), (141, v4), (140, v3), (137, v1), (139, v1), (138, (d 6))]) H2 K' =
  onCall 0 call (.func (.func 9) #[] #[]) [v3] H2 fun v5 H6 =>
  onV (oExtract v5 0) fun v7 =>
  onV (oExtract v5 1) fun v8 =>
  K' (FG 190 d [(22, v8), (21, v7), (146, v8), (145, v7), (142, v5), (144, v5), (143, v3), (20, v4), (19, v3), (141, v4), (140, v3), (137, v1), (139, v1), (138, (d 6))]) H6 := by kernel_rfl
theorem s3_16 : o3 0 call [1,1,1,1,1,1,0,1,0,0,1,0,0,1,0,0] 5 (FG 190 d [(53, (.bool true))]) H K' =
  onV (oIndexAddr Tryd.prog 24 (d 1) (d 9)) fun v1 =>
  onV (gLoad Tryd.prog 5 v1 H) fun v2 =>
  onV ((oBin Tryd.prog .rem 5 v2 (.int .u8 40)).filter closed) fun v3 =>
  onV ((oConvert Tryd.prog 5 3 v3).filter closed) fun v4 =>
  onV ((oBin Tryd.prog .lss 3 v4 (d 10)).filter closed) fun v5 =>
  K' (FG 190 d [(62, v5), (61, v5), (60, (d 10)), (59, v4), (58, v3), (57, v2), (56, v1), (55, (d 9)), (54, (d 1)), (53, (.bool true))]) H := by kernel_rfl
theorem s3_17 : o3 0 call [1,1,1,1,1,1,0,1,0,0,1,0,0,1,0,0] 5 (FG 190 d [(53, (.bool false))]) H K' =
  K' (FG 190 d [(62, (.bool false)), (61, undef), (60, undef), (59, undef), (58, undef), (57, undef), (56, undef), (55, undef), (54, undef), (53, (.bool false))]) H := by kernel_rfl
theorem s3_18 : o3 0 call [1,1,1,1,1,1,1,1,1,0] 0 (FF 190 d) H K' =
  onCall 0 call (.func (.func 6) #[] #[]) [(d 19), (d 5)] H fun v1 H2 =>
  onV (oExtract v1 0) fun v3 =>
  onV (oExtract v1 1) fun v4 =>
  K' (FG 190 d [(24, v4), (23, v3), (152, v4), (151, v3), (147, v1), (150, v1), (149, (d 5)), (148, (d 19))]) H2 := by kernel_rfl
theorem s3_19 : o3 0 call [1,1,1,1,1,1,1,1,1,1,0] 0 (FG 190 d [(24, v4), (23, v3), (152, v4), (151, v3), (147, v1), (150, v1), (149, (d 5)), (148, (d 19))]) H2 K' =
  onCall 0 call (.func (.func 11) #[] #[]) [(d 19)] H2 fun v5 H6 =>
  onV (oExtract v5 0) fun v7 =>
  onV (oExtract v5 1) fun v8 =>
  K' (FG 190 d [(26, v8), (25, v7), (157, v8), (156, v7), (153, v5), (155, v5), (154, (d 19)), (24, v4), (23, v3), (152, v4), (151, v3), (147, v1), (150, v1), (149, (d 5)), (148, (d 19))]) H6 := by kernel_rfl
theorem s3_20 : o3 0 call [1,1,1,1,1,1,0,1,0,0,1,0,0,1,0,1,0] 0 (FF 190 d) H K' =
  onV (oIndexAddr Tryd.prog 24 (d 1) (d 9)) fun v1 =>
  onV (gLoad Tryd.prog 5 v1 H) fun v2 =>
  onV ((oBin Tryd.prog .rem 5 v2 (.int .u8 40)).filter closed) fun v3 =>
  onV ((oConvert Tryd.prog 5 3 v3).filter closed) fun v4 =>
  K' (FG 190 d [(10, v4), (68, v4), (67, v3), (66, v2), (65, v1), (64, (d 9)), (63, (d 1))]) H := by kernel_rfl
theorem s3_21 : o3 0 call [1,1,1,1,1,1,0,1,0,0,1,0,0,1,1,0] 0 (FF 190 d) H K' =
  onV ((oBin Tryd.prog .add 3 (d 8) (d 10)).filter closed) fun v1 =>
  onV (oSlice Tryd.prog 26 (d 5) (some (d 8)) (some v1) none) fun v2 =>
  onCall 0 call (.func (.func 6) #[] #[]) [(d 6), v2] H fun v3 H4 =>
  onV (oExtract v3 0) fun v5 =>
  onV (oExtract v3 1) fun v6 =>
  K' (FG 190 d [(12, v6), (11, v5), (79, v6), (78, v5), (69, v3), (77, v3), (76, v2), (75, v1), (74, (d 10)), (73, (d 8)), (72, (d 8)), (71, (d 5)), (70, (d 6))]) H4 := by kernel_rfl
theorem s3_22 : o3 0 call [1,1,1,1,1,1,0,1,0,0,1,0,0,1,1,0] 0 (FF 190 d) H K' =
  onV ((oBin Tryd.prog .add 3 (d 8) (d 10)).filter closed) fun v1 =>
  onV (oSlice Tryd.prog 26 (d 5) (some (d 8)) (some v1) none) fun v2 =>
  onCall 0 call (.func (.func 6) #[] #[]) [(d 6), v2] H fun v3 H4 =>
  onV (oExtract v3 0) fun v5 =>
  onV (oExtract v3 1) fun v6 =>
  K' (FG 190 d [(12, v6), (11, v5), (79, v6), (78, v5), (69, v3), (77, v3), (76, v2), (75, v1), (74, (d 10)), (73, (d 8)), (72, (d 8)), (71, (d 5)), (70, (d 6))]) H4 := by kernel_rfl
theorem s3_23 : t3 3 call [1,1,1,1,1,1,1,1,1,1,1,0] 0 3 (FF 190 d) H K' =
  onV ((oBin Tryd.prog .eql 28 (d 20) (.int .i64 0)).filter closed) fun v1 =>
  onGrd true v1 (K' (FG 190 d [(160, v1), (159, v1), (158, (d 20))]) H) := by kernel_rfl
theorem s3_24 : o3 0 call [1,1,1,1,1,1,0,1,0,0,1,0,0,1,1,1,0] 0 (FF 190 d) H K' =
  onV ((oBin Tryd.prog .add 3 (d 8) (d 10)).filter closed) fun v1 =>
  onV (oSlice Tryd.prog 26 (d 5) (some (d 8)) (some v1) none) fun v2 =>
  onCall 0 call (.func (.func 7) #[] #[]) [v2] H fun v3 H4 =>
  K' (FG 190 d [(13, v3), (86, v3), (85, v2), (84, v1), (83, (d 10)), (82, (d 8)), (81, (d 8)), (80, (d 5))]) H4 := by kernel_rfl
theorem s3_25 : o3 0 call [1,1,1,1,1,1,0,1,0,0,1,0,0,1,1,1,1,0,0] 0 (FG 190 d [(13, v3), (86, v3), (85, v2), (84, v1), (83, (d 10)), (82, (d 8)), (81, (d 8)), (80, (d 5))]) H4 K' =
  K' (FG 190 d [(14, (.int .i64 0)), (13, v3), (86, v3), (85, v2), (84, v1), (83, (d 10)), (82, (d 8)), (81, (d 8)), (80, (d 5))]) H4 := by kernel_rfl
theorem s3_26 : t3 3 call [1,1,1,1,1,1,1,1,1,1,1,0] 3 9 (FG 190 d [(160, (.bool true))]) H K' =
  onV (gConvert Tryd.prog 24 9 (d 19) H) fun v1 =>
  onClosed true v1 <|
  onVH (gBuildSlice Tryd.prog 24 3 [(0, (.int .u8 0)), (1, (.int .u8 225)), (2, (.int .u8 240))] H) fun v2 H3 =>
  onVH (gAppend Tryd.prog 24 24 (d 7) v2 H3) fun v4 H5 =>
  onSame (gConvert Tryd.prog 24 9 (d 19) H3) (gConvert Tryd.prog 24 9 (d 19) H5) <|
  onV (gConvert Tryd.prog 24 9 v4 H5) fun v6 =>
  onV ((oBin Tryd.prog .eql 9 v1 v6).filter closed) fun v7 =>
  onGrd true v7 (K' (FG 190 d [(169, v7), (168, v7), (167, v7), (166, v6), (165, v4), (164, v2), (163, (d 7)), (162, v1), (161, (d 19)), (160, (.bool true))]) H5) := by kernel_rfl
theorem s3_27 : o3 3 call [1,1,1,1,1,1,1,1,1,1,1,0] 3 (FG 190 d [(160, (.bool false))]) H K' =
  K' (FG 190 d [(4, (.bool false)), (189, (.bool false)), (188, undef), (187, (.bool false)), (186, (.bool false)), (185, undef), (184, undef), (183, (.bool false)), (182, (.bool false)), (181, undef), (180, undef), (179, (.bool false)), (178, (.bool false)), (177, undef), (176, undef), (175, undef), (174, undef), (173, (.bool false)), (172, (.bool false)), (171, undef), (170, undef), (169, (.bool false)), (168, (.bool false)), (167, undef), (166, undef), (165, undef), (164, undef), (163, undef), (162, undef), (161, undef), (160, (.bool false))]) H := by kernel_rfl
theorem s3_28 : o3 0 call [1,1,1,1,1,1,0,1,0,0,1,0,0,1,1,1,1,0,1,0,0,0,0] 0 (FF 190 d) H K' =
  onV (oLen Tryd.prog 31 (d 13)) fun v1 =>
  onV ((oBin Tryd.prog .lss 3 (d 14) v1).filter closed) fun v2 =>
  K' (FG 190 d [(90, v2), (89, v1), (88, (d 13)), (87, (d 14))]) H := by kernel_rfl
theorem s3_29 : o3 0 call [1,1,1,1,1,1,0,1,0,0,1,0,0,1,1,1,1,0,1,0,0,1,0,0] 0 (FG 190 d [(90, v2), (89, v1), (88, (d 13)), (87, (d 14))]) H K' =
  onV (oIndexAddr Tryd.prog 31 (d 13) (d 14)) fun v3 =>
  onV (gLoad Tryd.prog 24 v3 H) fun v4 =>
  onVH (gAppend Tryd.prog 24 24 (d 7) v4 H) fun v5 H6 =>
  K' (FG 190 d [(7, v5), (98, v5), (97, v4), (96, v3), (95, (d 14)), (94, (d 13)), (93, (d 7)), (90, v2), (89, v1), (88, (d 13)), (87, (d 14))]) H6 := by kernel_rfl
theorem s3_30 : o3 0 call [1,1,1,1,1,1,0,1,0,0,1,0,0,1,1,1,1,0,1,0,0,1,1] 0 (FG 190 d [(7, v5), (98, v5), (97, v4), (96, v3), (95, (d 14)), (94, (d 13)), (93, (d 7)), (90, v2), (89, v1), (88, (d 13)), (87, (d 14))]) H6 K' =
  onV ((oBin Tryd.prog .add 3 (d 14) (.int .i64 1)).filter closed) fun v7 =>
  K' (FG 190 d [(14, v7), (92, v7), (91, (d 14)), (7, v5), (98, v5), (97, v4), (96, v3), (95, (d 14)), (94, (d 13)), (93, (d 7)), (90, v2), (89, v1), (88, (d 13)), (87, (d 14))]) H6 := by kernel_rfl
theorem s3_31 : t3 3 call [1,1,1,1,1,1,1,1,1,1,1,0] 12 4 (FG 190 d [(169, (.bool true))]) H K' =
  onV ((oBin Tryd.prog .eql 28 (d 22) (.int .i64 0)).filter closed) fun v1 =>
  onGrd true v1 (K' (FG 190 d [(173, v1), (172, v1), (171, v1), (170, (d 22)), (169, (.bool true))]) H) := by kernel_rfl
theorem s3_32 : o3 3 call [1,1,1,1,1,1,1,1,1,1,1,0] 12 (FG 190 d [(169, (.bool false))]) H K' =
  K' (FG 190 d [(4, (.bool false)), (189, (.bool false)), (188, undef), (187, (.bool false)), (186, (.bool false)), (185, undef), (184, undef), (183, (.bool false)), (182, (.bool false)), (181, undef), (180, undef), (179, (.bool false)), (178, (.bool false)), (177, undef), (176, undef), (175, undef), (174, undef), (173, (.bool false)), (172, (.bool false)), (171, undef), (170, undef), (169, (.bool false))]) H := by kernel_rfl
theorem s3_33 : o3 0 call [1,1,1,1,1,1,0,1,0,0,1,0,0,1,1,1,1,1,0] 0 (FF 190 d) H K' =
  onV ((oBin Tryd.prog .add 3 (d 8) (d 10)).filter closed) fun v1 =>
  K' (FG 190 d [(8, v1), (101, v1), (100, (d 10)), (99, (d 8))]) H := by kernel_rfl
theorem s3_34 : o3 0 call [1,1,1,1,1,1,0,1,0,0,1,0,0,1,1,1,1,1,1,0] 0 (FG 190 d [(8, v1), (101, v1), (100, (d 10)), (99, (d 8))]) H K' =
  onCall 0 call (.func (.func 8) #[] #[]) [(d 11)] H fun v2 H3 =>
  onV (oExtract v2 0) fun v4 =>
  onV (oExtract v2 1) fun v5 =>
  K' (FG 190 d [(16, v5), (15, v4), (106, v5), (105, v4), (102, v2), (104, v2), (103, (d 11)), (8, v1), (101, v1), (100, (d 10)), (99, (d 8))]) H3 := by kernel_rfl
theorem s3_35 : o3 0 call [1,1,1,1,1,1,0,1,0,0,1,0,0,1,1,1,1,1,1,1,0] 0 (FG 190 d [(16, v5), (15, v4), (106, v5), (105, v4), (102, v2), (104, v2), (103, (d 11)), (8, v1), (101, v1), (100, (d 10)), (99, (d 8))]) H3 K' =
  onCall 0 call (.func (.func 9) #[] #[]) [(d 11)] H3 fun v6 H7 =>
  onV (oExtract v6 0) fun v8 =>
  onV (oExtract v6 1) fun v9 =>
  K' (FG 190 d [(18, v9), (17, v8), (111, v9), (110, v8), (107, v6), (109, v6), (108, (d 11)), (16, v5), (15, v4), (106, v5), (105, v4), (102, v2), (104, v2), (103, (d 11)), (8, v1), (101, v1), (100, (d 10)), (99, (d 8))]) H7 := by kernel_rfl
theorem s3_36 : t3 3 call [1,1,1,1,1,1,1,1,1,1,1,0] 16 6 (FG 190 d [(173, (.bool true))]) H K' =
  onCall 3 call (.func (.func 10) #[] #[]) [(d 21), (d 5)] H fun v1 H2 =>
  onV ((oBin Tryd.prog .eql 3 v1 (.int .i64 1)).filter closed) fun v3 =>
  onGrd true v3 (K' (FG 190 d [(179, v3), (178, v3), (177, v3), (176, v1), (175, (d 5)), (174, (d 21)), (173, (.bool true))]) H2) := by kernel_rfl
theorem s3_37 : o3 3 call [1,1,1,1,1,1,1,1,1,1,1,0] 16 (FG 190 d [(173, (.bool false))]) H K' =
  K' (FG 190 d [(4, (.bool false)), (189, (.bool false)), (188, undef), (187, (.bool false)), (186, (.bool false)), (185, undef), (184, undef), (183, (.bool false)), (182, (.bool false)), (181, undef), (180, undef), (179, (.bool false)), (178, (.bool false)), (177, undef), (176, undef), (175, undef), (174, undef), (173, (.bool false))]) H := by kernel_rfl
theorem s3_38 : t3 0 call [1,1,1,1,1,1,0,1,0,0,1,0,0,1,1,1,1,1,1,1,1,0,0] 0 3 (FF 190 d) H K' =
  onV ((oBin Tryd.prog .neq 28 (d 12) (.int .i64 0)).filter closed) fun v1 =>
  onGrd true v1 (K' (FG 190 d [(114, v1), (113, v1), (112, (d 12))]) H) := by kernel_rfl
theorem s3_39 : t3 3 call [1,1,1,1,1,1,1,1,1,1,1,0] 22 4 (FG 190 d [(179, (.bool true))]) H K' =
  onV ((oBin Tryd.prog .eql 28 (d 24) (.int .i64 6)).filter closed) fun v1 =>
  onGrd true v1 (K' (FG 190 d [(183, v1), (182, v1), (181, v1), (180, (d 24)), (179, (.bool true))]) H) := by kernel_rfl
theorem s3_40 : o3 3 call [1,1,1,1,1,1,1,1,1,1,1,0] 22 (FG 190 d [(179, (.bool false))]) H K' =
  K' (FG 190 d [(4, (.bool false)), (189, (.bool false)), (188, undef), (187, (.bool false)), (186, (.bool false)), (185, undef), (184, undef), (183, (.bool false)), (182, (.bool false)), (181, undef), (180, undef), (179, (.bool false))]) H := by kernel_rfl
theorem s3_41 : o3 0 call [1,1,1,1,1,1,0,1,0,0,1,0,0,1,1,1,1,1,1,1,1,0,0] 3 (FG 190 d [(114, (.bool true))]) H K' =
  K' (FG 190 d [(135, (.bool true)), (134, undef), (133, undef), (132, (.bool true)), (131, (.bool true)), (130, undef), (129, (.bool true)), (128, (.bool true)), (127, undef), (126, undef), (125, undef), (124, undef), (123, undef), (122, undef), (121, (.bool true)), (120, (.bool true)), (119, undef), (118, undef), (117, undef), (116, undef), (115, undef), (114, (.bool true))]) H := by kernel_rfl
theorem s3_42 : o3 0 call [1,1,1,1,1,1,0,1,0,0,1,0,0,1,1,1,1,1,1,1,1,0,1,0,0] 0 (FG 190 d [(135, (.bool true)), (134, undef), (133, undef), (132, (.bool true)), (131, (.bool true)), (130, undef), (129, (.bool true)), (128, (.bool true)), (127, undef), (126, undef), (125, undef), (124, undef), (123, undef), (122, undef), (121, (.bool true)), (120, (.bool true)), (119, undef), (118, undef), (117, undef), (116, undef), (115, undef), (114, (.bool true))]) H K' =
  K' (FG 190 d [(4, (.bool false)), (135, (.bool true)), (134, undef), (133, undef), (132, (.bool true)), (131, (.bool true)), (130, undef), (129, (.bool true)), (128, (.bool true)), (127, undef), (126, undef), (125, undef), (124, undef), (123, undef), (122, undef), (121, (.bool true)), (120, (.bool true)), (119, undef), (118, undef), (117, undef), (116, undef), (115, undef), (114, (.bool true))]) H := by kernel_rfl
theorem s3_43 : t3 0 call [1,1,1,1,1,1,0,1,0,0,1,0,0,1,1,1,1,1,1,1,1,0,0] 3 7 (FG 190 d [(114, (.bool false))]) H K' =
  onV (gConvert Tryd.prog 24 9 (d 11) H) fun v1 =>
  onV (gConvert Tryd.prog 24 9 (d 7) H) fun v2 =>
  onV ((oBin Tryd.prog .neq 9 v1 v2).filter closed) fun v3 =>
  onGrd true v3 (K' (FG 190 d [(121, v3), (120, v3), (119, v3), (118, v2), (117, (d 7)), (116, v1), (115, (d 11)), (114, (.bool false))]) H) := by kernel_rfl
theorem s3_44 : t3 3 call [1,1,1,1,1,1,1,1,1,1,1,0] 26 4 (FG 190 d [(183, (.bool true))]) H K' =
  onV ((oBin Tryd.prog .eql 28 (d 26) (.int .i64 6)).filter closed) fun v1 =>
  onGrd true v1 (K' (FG 190 d [(187, v1), (186, v1), (185, v1), (184, (d 26)), (183, (.bool true))]) H) := by kernel_rfl
theorem s3_45 : o3 3 call [1,1,1,1,1,1,1,1,1,1,1,0] 26 (FG 190 d [(183, (.bool false))]) H K' =
  K' (FG 190 d [(4, (.bool false)), (189, (.bool false)), (188, undef), (187, (.bool false)), (186, (.bool false)), (185, undef), (184, undef), (183, (.bool false))]) H := by kernel_rfl
theorem s3_46 : o3 0 call [1,1,1,1,1,1,0,1,0,0,1,0,0,1,1,1,1,1,1,1,1,0,0] 10 (FG 190 d [(121, (.bool true))]) H K' =
  K' (FG 190 d [(135, (.bool true)), (134, undef), (133, undef), (132, (.bool true)), (131, (.bool true)), (130, undef), (129, (.bool true)), (128, (.bool true)), (127, undef), (126, undef), (125, undef), (124, undef), (123, undef), (122, undef), (121, (.bool true))]) H := by kernel_rfl
theorem s3_47 : o3 0 call [1,1,1,1,1,1,0,1,0,0,1,0,0,1,1,1,1,1,1,1,1,0,1,0,0] 0 (FG 190 d [(135, (.bool true)), (134, undef), (133, undef), (132, (.bool true)), (131, (.bool true)), (130, undef), (129, (.bool true)), (128, (.bool true)), (127, undef), (126, undef), (125, undef), (124, undef), (123, undef), (122, undef), (121, (.bool true))]) H K' =
  K' (FG 190 d [(4, (.bool false)), (135, (.bool true)), (134, undef), (133, undef), (132, (.bool true)), (131, (.bool true)), (130, undef), (129, (.bool true)), (128, (.bool true)), (127, undef), (126, undef), (125, undef), (124, undef), (123, undef), (122, undef), (121, (.bool true))]) H := by kernel_rfl
theorem s3_48 : t3 0 call [1,1,1,1,1,1,0,1,0,0,1,0,0,1,1,1,1,1,1,1,1,0,0] 10 8 (FG 190 d [(121, (.bool false))]) H K' =
  onV (oSlice Tryd.prog 26 (d 5) none (some (d 8)) none) fun v1 =>
  onCall 0 call (.func (.func 10) #[] #[]) [(d 15), v1] H fun v2 H3 =>
  onV ((oBin Tryd.prog .eql 3 v2 (.int .i64 0)).filter closed) fun v4 =>
  onGrd true v4 (K' (FG 190 d [(129, v4), (128, v4), (127, v4), (126, v2), (125, v1), (124, (d 8)), (123, (d 5)), (122, (d 15)), (121, (.bool false))]) H3) := by kernel_rfl
theorem s3_49 : o3 3 call [1,1,1,1,1,1,1,1,1,1,1,0] 30 (FG 190 d [(187, (.bool true))]) H K' =
  onCall 3 call (.func (.func 4) #[] #[]) [] H fun v1 H2 =>
  K' (FG 190 d [(4, v1), (189, v1), (188, v1), (187, (.bool true))]) H2 := by kernel_rfl
theorem s3_50 : o3 3 call [1,1,1,1,1,1,1,1,1,1,1,0] 30 (FG 190 d [(187, (.bool false))]) H K' =
  K' (FG 190 d [(4, (.bool false)), (189, (.bool false)), (188, undef), (187, (.bool false))]) H := by kernel_rfl
theorem s3_51 : o3 0 call [1,1,1,1,1,1,0,1,0,0,1,0,0,1,1,1,1,1,1,1,1,0,0] 18 (FG 190 d [(129, (.bool true))]) H K' =
  K' (FG 190 d [(135, (.bool true)), (134, undef), (133, undef), (132, (.bool true)), (131, (.bool true)), (130, undef), (129, (.bool true))]) H := by kernel_rfl
theorem s3_52 : o3 0 call [1,1,1,1,1,1,0,1,0,0,1,0,0,1,1,1,1,1,1,1,1,0,1,0,0] 0 (FG 190 d [(135, (.bool true)), (134, undef), (133, undef), (132, (.bool true)), (131, (.bool true)), (130, undef), (129, (.bool true))]) H K' =
  K' (FG 190 d [(4, (.bool false)), (135, (.bool true)), (134, undef), (133, undef), (132, (.bool true)), (131, (.bool true)), (130, undef), (129, (.bool true))]) H := by kernel_rfl
theorem s3_53 : t3 0 call [1,1,1,1,1,1,0,1,0,0,1,0,0,1,1,1,1,1,1,1,1,0,0] 18 3 (FG 190 d [(129, (.bool false))]) H K' =
  onGrd true (d 16) (K' (FG 190 d [(132, (d 16)), (131, (d 16)), (130, (d 16)), (129, (.bool false))]) H) := by kernel_rfl
theorem s3_54 : o3 0 call [1,1,1,1,1,1,0,1,0,0,1,0,0,1,1,1,1,1,1,1,1,0,0] 21 (FG 190 d [(132, (.bool true))]) H K' =
  K' (FG 190 d [(135, (.bool true)), (134, undef), (133, undef), (132, (.bool true))]) H := by kernel_rfl
theorem s3_55 : o3 0 call [1,1,1,1,1,1,0,1,0,0,1,0,0,1,1,1,1,1,1,1,1,0,1,0,0] 0 (FG 190 d [(135, (.bool true)), (134, undef), (133, undef), (132, (.bool true))]) H K' =
  K' (FG 190 d [(4, (.bool false)), (135, (.bool true)), (134, undef), (133, undef), (132, (.bool true))]) H := by kernel_rfl
theorem s3_56 : o3 0 call [1,1,1,1,1,1,0,1,0,0,1,0,0,1,1,1,1,1,1,1,1,0,0] 21 (FG 190 d [(132, (.bool false))]) H K' =
  onV ((oBin Tryd.prog .neq 28 (d 18) (.int .i64 4)).filter closed) fun v1 =>
  K' (FG 190 d [(135, v1), (134, v1), (133, (d 18)), (132, (.bool false))]) H := by kernel_rfl
theorem s3_57 : o3 0 call [1,1,1,1,1,1,0,1,0,0,1,0,0,1,1,1,1,1,1,1,1,0,1,0,0] 0 (FG 190 d [(135, v1), (134, v1), (133, (d 18)), (132, (.bool false))]) H K' =
  K' (FG 190 d [(4, (.bool false)), (135, v1), (134, v1), (133, (d 18)), (132, (.bool false))]) H := by kernel_rfl
theorem s3_58 : o3 0 call [1,1,1,1,1,1,0,1,0,0,1,0,0,1,1,1,1,1,1,1,1,1] 0 (FG 190 d [(135, v1), (134, v1), (133, (d 18)), (132, (.bool false))]) H K' =
  K' (FG 190 d [(6, (d 11)), (136, (d 11)), (135, v1), (134, v1), (133, (d 18)), (132, (.bool false))]) H := by kernel_rfl
theorem s3_59 : o3 0 call [1,1,1,1,1,1,0,1,0,0,1,1] 0 (FG 190 d [(6, (d 11)), (136, (d 11)), (135, v1), (134, v1), (133, (d 18)), (132, (.bool false))]) H K' =
  onV ((oBin Tryd.prog .add 3 (d 9) (.int .i64 1)).filter closed) fun v2 =>
  K' (FG 190 d [(9, v2), (44, v2), (43, (d 9)), (6, (d 11)), (136, (d 11)), (135, v1), (134, v1), (133, (d 18)), (132, (.bool false))]) H := by kernel_rfl
def f3_l16_P (ag : AG) (sg : Sg10) : Prop := ∀ (d : Nat → Value) (H : GH), ag (FF 190 d) H = sg (d 1) (d 5) (d 7) (d 8) (d 9) (d 10) (d 11) (d 12) (d 13) (d 14) H
theorem f3_l16_at {ag : AG} {sg : Sg10} (h : f3_l16_P ag sg) : ag (FF 190 d) H = sg (d 1) (d 5) (d 7) (d 8) (d 9) (d 10) (d 11) (d 12) (d 13) (d 14) H := h d H
def f3_l8_P (ag : AG) (sg : Sg6) : Prop := ∀ (d : Nat → Value) (H : GH), ag (FF 190 d) H = sg (d 1) (d 5) (d 6) (d 7) (d 8) (d 9) H
theorem f3_l8_at {ag : AG} {sg : Sg6} (h : f3_l8_P ag sg) : ag (FF 190 d) H = sg (d 1) (d 5) (d 6) (d 7) (d 8) (d 9) H := h d H
noncomputable def f3_g22_21 (call : Handle) (k : Nat) (sg_l8 : Sg6) (x132 : Value) (x1 x5 x7 x8 x9 x11 x18 : Value) (H : GH) : M (Value × GH) :=
 onBool (asB x132)
  (some [((.bool false), H)])
  (onV ((oBin Tryd.prog .neq 28 x18 (.int .i64 4)).filter closed) fun v1 =>
  onBool (asB v1)
  (some [((.bool false), H)])
  (onV ((oBin Tryd.prog .add 3 x9 (.int .i64 1)).filter closed) fun v2 =>
  (sg_l8 x1 x5 x11 x7 x8 v2 H)))
theorem f3_g22_21_true (call : Handle) (k : Nat) (ag_l8 : AG) (sg_l8 : Sg6) (h_l8 : f3_l8_P ag_l8 sg_l8) : o3 0 call [1,1,1,1,1,1,0,1,0,0,1,0,0,1,1,1,1,1,1,1,1,0,0] 21 (FG 190 d [(132, (.bool true))]) H ((hSeq (g3 call k [1,1,1,1,1,1,0,1,0,0,1,0,0,1,1,1,1,1,1,1,1,0,1]) (hSeq (g3 call k [1,1,1,1,1,1,0,1,0,0,1,0,0,1,1,1,1,1,1,1,1,1]) (hBlock 1 (hSeq (g3 call k [1,1,1,1,1,1,0,1,0,0,1,1]) (hLoop ag_l8 (hBlock 0 (hSeq (g3 call k [1,1,1,1,1,1,1]) (hFin Tryd.prog Tryd.f3)))))))) .normal) =
  some [((.bool false), H)] := by
  rw [s3_54]
  rw [hSeq_n]
  rw [n3_78]
  refine (onBool_tt (by kernel_rfl)).trans ?_
  rw [n3_79]
  rw [n3_80]
  rw [s3_55]
  rw [hSeq_n]
  rw [n3_81]
  rw [hSeq_r, hBlock_r, hSeq_r, hLoop_r, hBlock_r, hSeq_r]
  kernel_rfl
theorem f3_g22_21_false (call : Handle) (k : Nat) (ag_l8 : AG) (sg_l8 : Sg6) (h_l8 : f3_l8_P ag_l8 sg_l8) : o3 0 call [1,1,1,1,1,1,0,1,0,0,1,0,0,1,1,1,1,1,1,1,1,0,0] 21 (FG 190 d [(132, (.bool false))]) H ((hSeq (g3 call k [1,1,1,1,1,1,0,1,0,0,1,0,0,1,1,1,1,1,1,1,1,0,1]) (hSeq (g3 call k [1,1,1,1,1,1,0,1,0,0,1,0,0,1,1,1,1,1,1,1,1,1]) (hBlock 1 (hSeq (g3 call k [1,1,1,1,1,1,0,1,0,0,1,1]) (hLoop ag_l8 (hBlock 0 (hSeq (g3 call k [1,1,1,1,1,1,1]) (hFin Tryd.prog Tryd.f3)))))))) .normal) =
  onV ((oBin Tryd.prog .neq 28 (d 18) (.int .i64 4)).filter closed) fun v1 =>
  onBool (asB v1)
  (some [((.bool false), H)])
  (onV ((oBin Tryd.prog .add 3 (d 9) (.int .i64 1)).filter closed) fun v2 =>
  (sg_l8 (d 1) (d 5) (d 11) (d 7) (d 8) v2 H)) := by
  rw [s3_56]
  refine onV_c fun v1 => ?_
  rw [hSeq_n]
  rw [n3_78]
  refine onBool_cc (by kernel_rfl) ?_ ?_
  · rw [n3_79]
    rw [n3_80]
    rw [s3_57]
    rw [hSeq_n]
    rw [n3_81]
    rw [hSeq_r, hBlock_r, hSeq_r, hLoop_r, hBlock_r, hSeq_r]
    kernel_rfl
  · rw [n3_82]
    rw [hSeq_n]
    rw [n3_83]
    rw [s3_58]
    rw [hBlock_n]
    rw [hSeq_n]
    rw [n3_84]
    rw [s3_59]
    refine onV_c fun v2 => ?_
    rw [hLoop_n]
    generalize e : (FG 190 d [(9, v2), (44, v2), (43, (d 9)), (6, (d 11)), (136, (d 11)), (135, v1), (134, v1), (133, (d 18)), (132, (.bool false))]) = a
    rw [show a = (FF 190 (gf a)) from (FF_gf (by subst e; exact FG_len)).symm]
    exact (f3_l8_at (d := gf a) h_l8).trans (by subst e; kernel_rfl)
theorem f3_g22_21_eq (call : Handle) (k : Nat) (ag_l8 : AG) (sg_l8 : Sg6) (h_l8 : f3_l8_P ag_l8 sg_l8) : onGrd true xg (o3 0 call [1,1,1,1,1,1,0,1,0,0,1,0,0,1,1,1,1,1,1,1,1,0,0] 21 (FG 190 d [(132, xg)]) H ((hSeq (g3 call k [1,1,1,1,1,1,0,1,0,0,1,0,0,1,1,1,1,1,1,1,1,0,1]) (hSeq (g3 call k [1,1,1,1,1,1,0,1,0,0,1,0,0,1,1,1,1,1,1,1,1,1]) (hBlock 1 (hSeq (g3 call k [1,1,1,1,1,1,0,1,0,0,1,1]) (hLoop ag_l8 (hBlock 0 (hSeq (g3 call k [1,1,1,1,1,1,1]) (hFin Tryd.prog Tryd.f3)))))))) .normal)) =
  f3_g22_21 call k sg_l8 xg (d 1) (d 5) (d 7) (d 8) (d 9) (d 11) (d 18) H := by
  cases xg with
  | bool b => cases b with
    | true => exact onGrd_b.trans (f3_g22_21_true call k ag_l8 sg_l8 h_l8)
    | false => exact onGrd_b.trans (f3_g22_21_false call k ag_l8 sg_l8 h_l8)
  | _ => kernel_rfl
noncomputable def f3_g22_18 (call : Handle) (k : Nat) (sg_l8 : Sg6) (x129 : Value) (x1 x5 x7 x8 x9 x11 x16 x18 : Value) (H : GH) : M (Value × GH) :=
 onBool (asB x129)
  (some [((.bool false), H)])
  ((f3_g22_21 call k (sg_l8) x16 x1 x5 x7 x8 x9 x11 x18 H))
theorem f3_g22_18_true (call : Handle) (k : Nat) (ag_l8 : AG) (sg_l8 : Sg6) (h_l8 : f3_l8_P ag_l8 sg_l8) : o3 0 call [1,1,1,1,1,1,0,1,0,0,1,0,0,1,1,1,1,1,1,1,1,0,0] 18 (FG 190 d [(129, (.bool true))]) H ((hSeq (g3 call k [1,1,1,1,1,1,0,1,0,0,1,0,0,1,1,1,1,1,1,1,1,0,1]) (hSeq (g3 call k [1,1,1,1,1,1,0,1,0,0,1,0,0,1,1,1,1,1,1,1,1,1]) (hBlock 1 (hSeq (g3 call k [1,1,1,1,1,1,0,1,0,0,1,1]) (hLoop ag_l8 (hBlock 0 (hSeq (g3 call k [1,1,1,1,1,1,1]) (hFin Tryd.prog Tryd.f3)))))))) .normal) =
  some [((.bool false), H)] := by
  rw [s3_51]
  rw [hSeq_n]
  rw [n3_78]
  refine (onBool_tt (by kernel_rfl)).trans ?_
  rw [n3_79]
  rw [n3_80]
  rw [s3_52]
  rw [hSeq_n]
  rw [n3_81]
  rw [hSeq_r, hBlock_r, hSeq_r, hLoop_r, hBlock_r, hSeq_r]
  kernel_rfl
theorem f3_g22_18_false (call : Handle) (k : Nat) (ag_l8 : AG) (sg_l8 : Sg6) (h_l8 : f3_l8_P ag_l8 sg_l8) : o3 0 call [1,1,1,1,1,1,0,1,0,0,1,0,0,1,1,1,1,1,1,1,1,0,0] 18 (FG 190 d [(129, (.bool false))]) H ((hSeq (g3 call k [1,1,1,1,1,1,0,1,0,0,1,0,0,1,1,1,1,1,1,1,1,0,1]) (hSeq (g3 call k [1,1,1,1,1,1,0,1,0,0,1,0,0,1,1,1,1,1,1,1,1,1]) (hBlock 1 (hSeq (g3 call k [1,1,1,1,1,1,0,1,0,0,1,1]) (hLoop ag_l8 (hBlock 0 (hSeq (g3 call k [1,1,1,1,1,1,1]) (hFin Tryd.prog Tryd.f3)))))))) .normal) =
  (f3_g22_21 call k (sg_l8) (d 16) (d 1) (d 5) (d 7) (d 8) (d 9) (d 11) (d 18) H) := by
  rw [o3_s 18 3, s3_53]
  generalize e : (FG 190 d [(132, (d 16)), (131, (d 16)), (130, (d 16)), (129, (.bool false))]) = a
  rw [show a = (FG 190 (gf a) [(132, (d 16))]) from (FG_eq (by subst e; exact FG_len) (FS_cons (by subst e; kernel_rfl) (FS_nil))).symm]
  exact (f3_g22_21_eq (d := gf a) call k ag_l8 sg_l8 h_l8).trans (by subst e; kernel_rfl)
theorem f3_g22_18_eq (call : Handle) (k : Nat) (ag_l8 : AG) (sg_l8 : Sg6) (h_l8 : f3_l8_P ag_l8 sg_l8) : onGrd true xg (o3 0 call [1,1,1,1,1,1,0,1,0,0,1,0,0,1,1,1,1,1,1,1,1,0,0] 18 (FG 190 d [(129, xg)]) H ((hSeq (g3 call k [1,1,1,1,1,1,0,1,0,0,1,0,0,1,1,1,1,1,1,1,1,0,1]) (hSeq (g3 call k [1,1,1,1,1,1,0,1,0,0,1,0,0,1,1,1,1,1,1,1,1,1]) (hBlock 1 (hSeq (g3 call k [1,1,1,1,1,1,0,1,0,0,1,1]) (hLoop ag_l8 (hBlock 0 (hSeq (g3 call k [1,1,1,1,1,1,1]) (hFin Tryd.prog Tryd.f3)))))))) .normal)) =
  f3_g22_18 call k sg_l8 xg (d 1) (d 5) (d 7) (d 8) (d 9) (d 11) (d 16) (d 18) H := by
  cases xg with
  | bool b => cases b with
    | true => exact onGrd_b.trans (f3_g22_18_true call k ag_l8 sg_l8 h_l8)
    | false => exact onGrd_b.trans (f3_g22_18_false call k ag_l8 sg_l8 h_l8)
  | _ => kernel_rfl
noncomputable def f3_g22_10 (call : Handle) (k : Nat) (sg_l8 : Sg6) (x121 : Value) (x1 x5 x7 x8 x9 x11 x15 x16 x18 : Value) (H : GH) : M (Value × GH) :=
 onBool (asB x121)
  (some [((.bool false), H)])
  (onV (oSlice Tryd.prog 26 x5 none (some x8) none) fun v1 =>
  onCall 0 call (.func (.func 10) #[] #[]) [x15, v1] H fun v2 H3 =>
  onV ((oBin Tryd.prog .eql 3 v2 (.int .i64 0)).filter closed) fun v4 =>
  (f3_g22_18 call k (sg_l8) v4 x1 x5 x7 x8 x9 x11 x16 x18 H3))
theorem f3_g22_10_true (call : Handle) (k : Nat) (ag_l8 : AG) (sg_l8 : Sg6) (h_l8 : f3_l8_P ag_l8 sg_l8) : o3 0 call [1,1,1,1,1,1,0,1,0,0,1,0,0,1,1,1,1,1,1,1,1,0,0] 10 (FG 190 d [(121, (.bool true))]) H ((hSeq (g3 call k [1,1,1,1,1,1,0,1,0,0,1,0,0,1,1,1,1,1,1,1,1,0,1]) (hSeq (g3 call k [1,1,1,1,1,1,0,1,0,0,1,0,0,1,1,1,1,1,1,1,1,1]) (hBlock 1 (hSeq (g3 call k [1,1,1,1,1,1,0,1,0,0,1,1]) (hLoop ag_l8 (hBlock 0 (hSeq (g3 call k [1,1,1,1,1,1,1]) (hFin Tryd.prog Tryd.f3)))))))) .normal) =
  some [((.bool false), H)] := by
  rw [s3_46]
  rw [hSeq_n]
  rw [n3_78]
  refine (onBool_tt (by kernel_rfl)).trans ?_
  rw [n3_79]
  rw [n3_80]
  rw [s3_47]
  rw [hSeq_n]
  rw [n3_81]
  rw [hSeq_r, hBlock_r, hSeq_r, hLoop_r, hBlock_r, hSeq_r]
  kernel_rfl
theorem f3_g22_10_false (call : Handle) (k : Nat) (ag_l8 : AG) (sg_l8 : Sg6) (h_l8 : f3_l8_P ag_l8 sg_l8) : o3 0 call [1,1,1,1,1,1,0,1,0,0,1,0,0,1,1,1,1,1,1,1,1,0,0] 10 (FG 190 d [(121, (.bool false))]) H ((hSeq (g3 call k [1,1,1,1,1,1,0,1,0,0,1,0,0,1,1,1,1,1,1,1,1,0,1]) (hSeq (g3 call k [1,1,1,1,1,1,0,1,0,0,1,0,0,1,1,1,1,1,1,1,1,1]) (hBlock 1 (hSeq (g3 call k [1,1,1,1,1,1,0,1,0,0,1,1]) (hLoop ag_l8 (hBlock 0 (hSeq (g3 call k [1,1,1,1,1,1,1]) (hFin Tryd.prog Tryd.f3)))))))) .normal) =
  onV (oSlice Tryd.prog 26 (d 5) none (some (d 8)) none) fun v1 =>
  onCall 0 call (.func (.func 10) #[] #[]) [(d 15), v1] H fun v2 H3 =>
  onV ((oBin Tryd.prog .eql 3 v2 (.int .i64 0)).filter closed) fun v4 =>
  (f3_g22_18 call k (sg_l8) v4 (d 1) (d 5) (d 7) (d 8) (d 9) (d 11) (d 16) (d 18) H3) := by
  rw [o3_s 10 8, s3_48]
  refine onV_c fun v1 => ?_
  refine onCall_c fun v2 H3 => ?_
  refine onV_c fun v4 => ?_
  generalize e : (FG 190 d [(129, v4), (128, v4), (127, v4), (126, v2), (125, v1), (124, (d 8)), (123, (d 5)), (122, (d 15)), (121, (.bool false))]) = a
  rw [show a = (FG 190 (gf a) [(129, v4)]) from (FG_eq (by subst e; exact FG_len) (FS_cons (by subst e; kernel_rfl) (FS_nil))).symm]
  exact (f3_g22_18_eq (d := gf a) call k ag_l8 sg_l8 h_l8).trans (by subst e; kernel_rfl)
theorem f3_g22_10_eq (call : Handle) (k : Nat) (ag_l8 : AG) (sg_l8 : Sg6) (h_l8 : f3_l8_P ag_l8 sg_l8) : onGrd true xg (o3 0 call [1,1,1,1,1,1,0,1,0,0,1,0,0,1,1,1,1,1,1,1,1,0,0] 10 (FG 190 d [(121, xg)]) H ((hSeq (g3 call k [1,1,1,1,1,1,0,1,0,0,1,0,0,1,1,1,1,1,1,1,1,0,1]) (hSeq (g3 call k [1,1,1,1,1,1,0,1,0,0,1,0,0,1,1,1,1,1,1,1,1,1]) (hBlock 1 (hSeq (g3 call k [1,1,1,1,1,1,0,1,0,0,1,1]) (hLoop ag_l8 (hBlock 0 (hSeq (g3 call k [1,1,1,1,1,1,1]) (hFin Tryd.prog Tryd.f3)))))))) .normal)) =
  f3_g22_10 call k sg_l8 xg (d 1) (d 5) (d 7) (d 8) (d 9) (d 11) (d 15) (d 16) (d 18) H := by
  cases xg with
  | bool b => cases b with
    | true => exact onGrd_b.trans (f3_g22_10_true call k ag_l8 sg_l8 h_l8)
    | false => exact onGrd_b.trans (f3_g22_10_false call k ag_l8 sg_l8 h_l8)
  | _ => kernel_rfl
noncomputable def f3_g22_3 (call : Handle) (k : Nat) (sg_l8 : Sg6) (x114 : Value) (x1 x5 x7 x8 x9 x11 x15 x16 x18 : Value) (H : GH) : M (Value × GH) :=
 onBool (asB x114)
  (some [((.bool false), H)])
  (onV (gConvert Tryd.prog 24 9 x11 H) fun v1 =>
  onV (gConvert Tryd.prog 24 9 x7 H) fun v2 =>
  onV ((oBin Tryd.prog .neq 9 v1 v2).filter closed) fun v3 =>
  (f3_g22_10 call k (sg_l8) v3 x1 x5 x7 x8 x9 x11 x15 x16 x18 H))
theorem f3_g22_3_true (call : Handle) (k : Nat) (ag_l8 : AG) (sg_l8 : Sg6) (h_l8 : f3_l8_P ag_l8 sg_l8) : o3 0 call [1,1,1,1,1,1,0,1,0,0,1,0,0,1,1,1,1,1,1,1,1,0,0] 3 (FG 190 d [(114, (.bool true))]) H ((hSeq (g3 call k [1,1,1,1,1,1,0,1,0,0,1,0,0,1,1,1,1,1,1,1,1,0,1]) (hSeq (g3 call k [1,1,1,1,1,1,0,1,0,0,1,0,0,1,1,1,1,1,1,1,1,1]) (hBlock 1 (hSeq (g3 call k [1,1,1,1,1,1,0,1,0,0,1,1]) (hLoop ag_l8 (hBlock 0 (hSeq (g3 call k [1,1,1,1,1,1,1]) (hFin Tryd.prog Tryd.f3)))))))) .normal) =
  some [((.bool false), H)] := by
  rw [s3_41]
  rw [hSeq_n]
  rw [n3_78]
  refine (onBool_tt (by kernel_rfl)).trans ?_
  rw [n3_79]
  rw [n3_80]
  rw [s3_42]
  rw [hSeq_n]
  rw [n3_81]
  rw [hSeq_r, hBlock_r, hSeq_r, hLoop_r, hBlock_r, hSeq_r]
  kernel_rfl
theorem f3_g22_3_false (call : Handle) (k : Nat) (ag_l8 : AG) (sg_l8 : Sg6) (h_l8 : f3_l8_P ag_l8 sg_l8) : o3 0 call [1,1,1,1,1,1,0,1,0,0,1,0,0,1,1,1,1,1,1,1,1,0,0] 3 (FG 190 d [(114, (.bool false))]) H ((hSeq (g3 call k [1,1,1,1,1,1,0,1,0,0,1,0,0,1,1,1,1,1,1,1,1,0,1]) (hSeq (g3 call k [1,1,1,1,1,1,0,1,0,0,1,0,0,1,1,1,1,1,1,1,1,1]) (hBlock 1 (hSeq (g3 call k [1,1,1,1,1,1,0,1,0,0,1,1]) (hLoop ag_l8 (hBlock 0 (hSeq (g3 call k [1,1,1,1,1,1,1]) (hFin Tryd.prog Tryd.f3)))))))) .normal) =
  onV (gConvert Tryd.prog 24 9 (d 11) H) fun v1 =>
  onV (gConvert Tryd.prog 24 9 (d 7) H) fun v2 =>
  onV ((oBin Tryd.prog .neq 9 v1 v2).filter closed) fun v3 =>
  (f3_g22_10 call k (sg_l8) v3 (d 1) (d 5) (d 7) (d 8) (d 9) (d 11) (d 15) (d 16) (d 18) H) := by
  rw [o3_s 3 7, s3_43]
  refine onV_c fun v1 => ?_
  refine onV_c fun v2 => ?_
  refine onV_c fun v3 => ?_
  generalize e : (FG 190 d [(121, v3), (120, v3), (119, v3), (118, v2), (117, (d 7)), (116, v1), (115, (d 11)), (114, (.bool false))]) = a
  rw [show a = (FG 190 (gf a) [(121, v3)]) from (FG_eq (by subst e; exact FG_len) (FS_cons (by subst e; kernel_rfl) (FS_nil))).symm]
  exact (f3_g22_10_eq (d := gf a) call k ag_l8 sg_l8 h_l8).trans (by subst e; kernel_rfl)
theorem f3_g22_3_eq (call : Handle) (k : Nat) (ag_l8 : AG) (sg_l8 : Sg6) (h_l8 : f3_l8_P ag_l8 sg_l8) : onGrd true xg (o3 0 call [1,1,1,1,1,1,0,1,0,0,1,0,0,1,1,1,1,1,1,1,1,0,0] 3 (FG 190 d [(114, xg)]) H ((hSeq (g3 call k [1,1,1,1,1,1,0,1,0,0,1,0,0,1,1,1,1,1,1,1,1,0,1]) (hSeq (g3 call k [1,1,1,1,1,1,0,1,0,0,1,0,0,1,1,1,1,1,1,1,1,1]) (hBlock 1 (hSeq (g3 call k [1,1,1,1,1,1,0,1,0,0,1,1]) (hLoop ag_l8 (hBlock 0 (hSeq (g3 call k [1,1,1,1,1,1,1]) (hFin Tryd.prog Tryd.f3)))))))) .normal)) =
  f3_g22_3 call k sg_l8 xg (d 1) (d 5) (d 7) (d 8) (d 9) (d 11) (d 15) (d 16) (d 18) H := by
  cases xg with
  | bool b => cases b with
    | true => exact onGrd_b.trans (f3_g22_3_true call k ag_l8 sg_l8 h_l8)
    | false => exact onGrd_b.trans (f3_g22_3_false call k ag_l8 sg_l8 h_l8)
  | _ => kernel_rfl
noncomputable def f3_r22 (call : Handle) (k : Nat) (sg_l8 : Sg6) (x1 x5 x7 x8 x9 x11 x12 x15 x16 x18 : Value) (H : GH) : M (Value × GH) :=
  onV ((oBin Tryd.prog .neq 28 x12 (.int .i64 0)).filter closed) fun v1 =>
  (f3_g22_3 call k (sg_l8) v1 x1 x5 x7 x8 x9 x11 x15 x16 x18 H)
theorem f3_r22_eq (call : Handle) (k : Nat) (ag_l8 : AG) (sg_l8 : Sg6) (h_l8 : f3_l8_P ag_l8 sg_l8) : g3 call k [1,1,1,1,1,1,0,1,0,0,1,0,0,1,1,1,1,1,1,1,1,0,0] (FF 190 d) H (hSeq (g3 call k [1,1,1,1,1,1,0,1,0,0,1,0,0,1,1,1,1,1,1,1,1,0,1]) (hSeq (g3 call k [1,1,1,1,1,1,0,1,0,0,1,0,0,1,1,1,1,1,1,1,1,1]) (hBlock 1 (hSeq (g3 call k [1,1,1,1,1,1,0,1,0,0,1,1]) (hLoop ag_l8 (hBlock 0 (hSeq (g3 call k [1,1,1,1,1,1,1]) (hFin Tryd.prog Tryd.f3)))))))) = f3_r22 call k sg_l8 (d 1) (d 5) (d 7) (d 8) (d 9) (d 11) (d 12) (d 15) (d 16) (d 18) H := by
  unfold f3_r22
  rw [n3_77]
  rw [o3_s 0 3, s3_38]
  refine onV_c fun v1 => ?_
  generalize e : (FG 190 d [(114, v1), (113, v1), (112, (d 12))]) = a
  rw [show a = (FG 190 (gf a) [(114, v1)]) from (FG_eq (by subst e; exact FG_len) (FS_cons (by subst e; kernel_rfl) (FS_nil))).symm]
  exact (f3_g22_3_eq (d := gf a) call k ag_l8 sg_l8 h_l8).trans (by subst e; kernel_rfl)
noncomputable def f3_r19 (call : Handle) (k : Nat) (sg_l8 : Sg6) (x1 x5 x7 x8 x9 x10 x11 x12 : Value) (H : GH) : M (Value × GH) :=
  onV ((oBin Tryd.prog .add 3 x8 x10).filter closed) fun v1 =>
  onCall 0 call (.func (.func 8) #[] #[]) [x11] H fun v2 H3 =>
  onV (oExtract v2 0) fun v4 =>
  onV (oExtract v2 1) fun v5 =>
  onCall 0 call (.func (.func 9) #[] #[]) [x11] H3 fun v6 H7 =>
  onV (oExtract v6 0) fun v8 =>
  onV (oExtract v6 1) fun v9 =>
  (f3_r22 call k (sg_l8) x1 x5 x7 v1 x9 x11 x12 v4 v5 v9 H7)
theorem f3_r19_eq (call : Handle) (k : Nat) (ag_l8 : AG) (sg_l8 : Sg6) (h_l8 : f3_l8_P ag_l8 sg_l8) : g3 call k [1,1,1,1,1,1,0,1,0,0,1,0,0,1,1,1,1,1] (FF 190 d) H (hBlock 1 (hSeq (g3 call k [1,1,1,1,1,1,0,1,0,0,1,1]) (hLoop ag_l8 (hBlock 0 (hSeq (g3 call k [1,1,1,1,1,1,1]) (hFin Tryd.prog Tryd.f3)))))) = f3_r19 call k sg_l8 (d 1) (d 5) (d 7) (d 8) (d 9) (d 10) (d 11) (d 12) H := by
  unfold f3_r19
  rw [n3_69]
  rw [n3_70]
  rw [s3_33]
  refine onV_c fun v1 => ?_
  rw [hSeq_n]
  rw [n3_71]
  rw [n3_72]
  rw [s3_34]
  refine onCall_c fun v2 H3 => ?_
  refine onV_c fun v4 => ?_
  refine onV_c fun v5 => ?_
  rw [hSeq_n]
  rw [n3_73]
  rw [n3_74]
  rw [s3_35]
  refine onCall_c fun v6 H7 => ?_
  refine onV_c fun v8 => ?_
  refine onV_c fun v9 => ?_
  rw [hSeq_n]
  rw [n3_75]
  rw [n3_76]
  generalize e : (FG 190 d [(18, v9), (17, v8), (111, v9), (110, v8), (107, v6), (109, v6), (108, (d 11)), (16, v5), (15, v4), (106, v5), (105, v4), (102, v2), (104, v2), (103, (d 11)), (8, v1), (101, v1), (100, (d 10)), (99, (d 8))]) = a
  rw [show a = (FF 190 (gf a)) from (FF_gf (by subst e; exact FG_len)).symm]
  exact (f3_r22_eq (d := gf a) call k ag_l8 sg_l8 h_l8).trans (by subst e; kernel_rfl)
noncomputable def f3_l16b (call : Handle) (k : Nat) (sg_l8 : Sg6) (sg_l16 : Sg10) (x1 x5 x7 x8 x9 x10 x11 x12 x13 x14 : Value) (H : GH) : M (Value × GH) :=
  onV (oLen Tryd.prog 31 x13) fun v1 =>
  onV ((oBin Tryd.prog .lss 3 x14 v1).filter closed) fun v2 =>
  onBool (asB v2)
  (onV (oIndexAddr Tryd.prog 31 x13 x14) fun v3 =>
  onV (gLoad Tryd.prog 24 v3 H) fun v4 =>
  onVH (gAppend Tryd.prog 24 24 x7 v4 H) fun v5 H6 =>
  onV ((oBin Tryd.prog .add 3 x14 (.int .i64 1)).filter closed) fun v7 =>
  (sg_l16 x1 x5 v5 x8 x9 x10 x11 x12 x13 v7 H6))
  ((f3_r19 call k (sg_l8) x1 x5 x7 x8 x9 x10 x11 x12 H))
theorem f3_l16b_eq (call : Handle) (k : Nat) (ag_l8 : AG) (sg_l8 : Sg6) (h_l8 : f3_l8_P ag_l8 sg_l8) (ag_l16 : AG) (sg_l16 : Sg10) (h_l16 : f3_l16_P ag_l16 sg_l16) : g3 call k [1,1,1,1,1,1,0,1,0,0,1,0,0,1,1,1,1,0,1,0,0] (FF 190 d) H (hLoop ag_l16 (hBlock 2 (hSeq (g3 call k [1,1,1,1,1,1,0,1,0,0,1,0,0,1,1,1,1,1]) (hBlock 1 (hSeq (g3 call k [1,1,1,1,1,1,0,1,0,0,1,1]) (hLoop ag_l8 (hBlock 0 (hSeq (g3 call k [1,1,1,1,1,1,1]) (hFin Tryd.prog Tryd.f3))))))))) = f3_l16b call k sg_l8 sg_l16 (d 1) (d 5) (d 7) (d 8) (d 9) (d 10) (d 11) (d 12) (d 13) (d 14) H := by
  unfold f3_l16b
  rw [n3_59]
  rw [n3_60]
  rw [n3_61]
  rw [s3_28]
  refine onV_c fun v1 => ?_
  refine onV_c fun v2 => ?_
  rw [hSeq_n]
  rw [n3_62]
  refine onBool_cc (by kernel_rfl) ?_ ?_
  · rw [n3_63]
    rw [hSeq_n]
    rw [n3_64]
    rw [n3_65]
    rw [n3_66]
    rw [s3_29]
    refine onV_c fun v3 => ?_
    refine onV_c fun v4 => ?_
    refine onVH_c fun v5 H6 => ?_
    rw [hBlock_n]
    rw [hSeq_n]
    rw [n3_67]
    rw [s3_30]
    refine onV_c fun v7 => ?_
    rw [hLoop_n]
    generalize e : (FG 190 d [(14, v7), (92, v7), (91, (d 14)), (7, v5), (98, v5), (97, v4), (96, v3), (95, (d 14)), (94, (d 13)), (93, (d 7)), (90, v2), (89, v1), (88, (d 13)), (87, (d 14))]) = a
    rw [show a = (FF 190 (gf a)) from (FF_gf (by subst e; exact FG_len)).symm]
    exact (f3_l16_at (d := gf a) h_l16).trans (by subst e; kernel_rfl)
  · rw [n3_68]
    rw [hSeq_e, hLoop_e, hBlock_hit]
    rw [hSeq_n]
    generalize e : (FG 190 d [(90, v2), (89, v1), (88, (d 13)), (87, (d 14))]) = a
    rw [show a = (FF 190 (gf a)) from (FF_gf (by subst e; exact FG_len)).symm]
    exact (f3_r19_eq (d := gf a) call k ag_l8 sg_l8 h_l8).trans (by subst e; kernel_rfl)
noncomputable def f3_l16 (call : Handle) (k : Nat) (sg_l8 : Sg6) : Nat → Value → Value → Value → Value → Value → Value → Value → Value → Value → Value → GH → M (Value × GH)
  | 0, _, _, _, _, _, _, _, _, _, _, _ => none
  | r + 1, x1, x5, x7, x8, x9, x10, x11, x12, x13, x14, H => f3_l16b call k sg_l8 (f3_l16 call k sg_l8 r) x1 x5 x7 x8 x9 x10 x11 x12 x13 x14 H
theorem f3_l16_eq (call : Handle) (k : Nat) (ag_l8 : AG) (sg_l8 : Sg6) (h_l8 : f3_l8_P ag_l8 sg_l8) : ∀ (r : Nat), f3_l16_P (gLoop (g3 call k [1,1,1,1,1,1,0,1,0,0,1,0,0,1,1,1,1,0,1,0,0]) (hBlock 2 (hSeq (g3 call k [1,1,1,1,1,1,0,1,0,0,1,0,0,1,1,1,1,1]) (hBlock 1 (hSeq (g3 call k [1,1,1,1,1,1,0,1,0,0,1,1]) (hLoop ag_l8 (hBlock 0 (hSeq (g3 call k [1,1,1,1,1,1,1]) (hFin Tryd.prog Tryd.f3)))))))) r) (f3_l16 call k sg_l8 r) := by
  intro r
  induction r with
  | zero => unfold f3_l16_P; intros; rfl
  | succ r ih => unfold f3_l16_P; intros; exact f3_l16b_eq call k ag_l8 sg_l8 h_l8 _ _ ih
noncomputable def f3_r14 (call : Handle) (k : Nat) (sg_l8 : Sg6) (x1 x5 x7 x8 x9 x10 x11 x12 : Value) (H : GH) : M (Value × GH) :=
  onV ((oBin Tryd.prog .add 3 x8 x10).filter closed) fun v1 =>
  onV (oSlice Tryd.prog 26 x5 (some x8) (some v1) none) fun v2 =>
  onCall 0 call (.func (.func 7) #[] #[]) [v2] H fun v3 H4 =>
  (f3_l16 call k (sg_l8) k x1 x5 x7 x8 x9 x10 x11 x12 v3 (.int .i64 0) H4)
theorem f3_r14_eq (call : Handle) (k : Nat) (ag_l8 : AG) (sg_l8 : Sg6) (h_l8 : f3_l8_P ag_l8 sg_l8) : g3 call k [1,1,1,1,1,1,0,1,0,0,1,0,0,1,1,1,0] (FF 190 d) H (hSeq (g3 call k [1,1,1,1,1,1,0,1,0,0,1,0,0,1,1,1,1]) (hBlock 1 (hSeq (g3 call k [1,1,1,1,1,1,0,1,0,0,1,1]) (hLoop ag_l8 (hBlock 0 (hSeq (g3 call k [1,1,1,1,1,1,1]) (hFin Tryd.prog Tryd.f3))))))) = f3_r14 call k sg_l8 (d 1) (d 5) (d 7) (d 8) (d 9) (d 10) (d 11) (d 12) H := by
  unfold f3_r14
  rw [n3_52]
  rw [s3_24]
  refine onV_c fun v1 => ?_
  refine onV_c fun v2 => ?_
  refine onCall_c fun v3 H4 => ?_
  rw [hSeq_n]
  rw [n3_53]
  rw [n3_54]
  rw [n3_55]
  rw [s3_25]
  rw [hSeq_n]
  rw [n3_56]
  rw [n3_57]
  generalize e : (FG 190 d [(14, (.int .i64 0)), (13, v3), (86, v3), (85, v2), (84, v1), (83, (d 10)), (82, (d 8)), (81, (d 8)), (80, (d 5))]) = a
  rw [show a = (FF 190 (gf a)) from (FF_gf (by subst e; exact FG_len)).symm]
  exact (f3_l16_at (d := gf a) (f3_l16_eq call k ag_l8 sg_l8 h_l8 k)).trans (by subst e; kernel_rfl)
noncomputable def f3_r13 (call : Handle) (k : Nat) (sg_l8 : Sg6) (x1 x5 x6 x7 x8 x9 x10 : Value) (H : GH) : M (Value × GH) :=
  onV ((oBin Tryd.prog .add 3 x8 x10).filter closed) fun v1 =>
  onV (oSlice Tryd.prog 26 x5 (some x8) (some v1) none) fun v2 =>
  onCall 0 call (.func (.func 6) #[] #[]) [x6, v2] H fun v3 H4 =>
  onV (oExtract v3 0) fun v5 =>
  onV (oExtract v3 1) fun v6 =>
  (f3_r14 call k (sg_l8) x1 x5 x7 x8 x9 x10 v5 v6 H4)
theorem f3_r13_eq (call : Handle) (k : Nat) (ag_l8 : AG) (sg_l8 : Sg6) (h_l8 : f3_l8_P ag_l8 sg_l8) : g3 call k [1,1,1,1,1,1,0,1,0,0,1,0,0,1,1] (FF 190 d) H (hBlock 1 (hSeq (g3 call k [1,1,1,1,1,1,0,1,0,0,1,1]) (hLoop ag_l8 (hBlock 0 (hSeq (g3 call k [1,1,1,1,1,1,1]) (hFin Tryd.prog Tryd.f3)))))) = f3_r13 call k sg_l8 (d 1) (d 5) (d 6) (d 7) (d 8) (d 9) (d 10) H := by
  unfold f3_r13
  rw [n3_43]
  rw [n3_49]
  rw [s3_21]
  refine onV_c fun v1 => ?_
  refine onV_c fun v2 => ?_
  refine onCall_c fun v3 H4 => ?_
  refine onV_c fun v5 => ?_
  refine onV_c fun v6 => ?_
  rw [hSeq_n]
  rw [n3_50]
  generalize e : (FG 190 d [(12, v6), (11, v5), (79, v6), (78, v5), (69, v3), (77, v3), (76, v2), (75, v1), (74, (d 10)), (73, (d 8)), (72, (d 8)), (71, (d 5)), (70, (d 6))]) = a
  rw [show a = (FF 190 (gf a)) from (FF_gf (by subst e; exact FG_len)).symm]
  exact (f3_r14_eq (d := gf a) call k ag_l8 sg_l8 h_l8).trans (by subst e; kernel_rfl)
noncomputable def f3_r12 (call : Handle) (k : Nat) (sg_l8 : Sg6) (x1 x5 x6 x7 x8 x9 : Value) (H : GH) : M (Value × GH) :=
  onV (oIndexAddr Tryd.prog 24 x1 x9) fun v1 =>
  onV (gLoad Tryd.prog 5 v1 H) fun v2 =>
  onV ((oBin Tryd.prog .rem 5 v2 (.int .u8 40)).filter closed) fun v3 =>
  onV ((oConvert Tryd.prog 5 3 v3).filter closed) fun v4 =>
  (f3_r13 call k (sg_l8) x1 x5 x6 x7 x8 x9 v4 H)
theorem f3_r12_eq (call : Handle) (k : Nat) (ag_l8 : AG) (sg_l8 : Sg6) (h_l8 : f3_l8_P ag_l8 sg_l8) : g3 call k [1,1,1,1,1,1,0,1,0,0,1,0,0,1,0,1,0] (FF 190 d) H (hSeq (g3 call k [1,1,1,1,1,1,0,1,0,0,1,0,0,1,1]) (hBlock 1 (hSeq (g3 call k [1,1,1,1,1,1,0,1,0,0,1,1]) (hLoop ag_l8 (hBlock 0 (hSeq (g3 call k [1,1,1,1,1,1,1]) (hFin Tryd.prog Tryd.f3))))))) = f3_r12 call k sg_l8 (d 1) (d 5) (d 6) (d 7) (d 8) (d 9) H := by
  unfold f3_r12
  rw [n3_48]
  rw [s3_20]
  refine onV_c fun v1 => ?_
  refine onV_c fun v2 => ?_
  refine onV_c fun v3 => ?_
  refine onV_c fun v4 => ?_
  rw [hSeq_n]
  generalize e : (FG 190 d [(10, v4), (68, v4), (67, v3), (66, v2), (65, v1), (64, (d 9)), (63, (d 1))]) = a
  rw [show a = (FF 190 (gf a)) from (FF_gf (by subst e; exact FG_len)).symm]
  exact (f3_r13_eq (d := gf a) call k ag_l8 sg_l8 h_l8).trans (by subst e; kernel_rfl)
noncomputable def f3_r13x (call : Handle) (k : Nat) (sg_l8 : Sg6) (x1 x5 x6 x7 x8 x9 x10 : Value) (H : GH) : M (Value × GH) :=
  onV ((oBin Tryd.prog .add 3 x8 x10).filter closed) fun v1 =>
  onV (oSlice Tryd.prog 26 x5 (some x8) (some v1) none) fun v2 =>
  onCall 0 call (.func (.func 6) #[] #[]) [x6, v2] H fun v3 H4 =>
  onV (oExtract v3 0) fun v5 =>
  onV (oExtract v3 1) fun v6 =>
  (f3_r14 call k (sg_l8) x1 x5 x7 x8 x9 x10 v5 v6 H4)
theorem f3_r13x_eq (call : Handle) (k : Nat) (ag_l8 : AG) (sg_l8 : Sg6) (h_l8 : f3_l8_P ag_l8 sg_l8) : g3 call k [1,1,1,1,1,1,0,1,0,0,1,0,0,1,1,0] (FF 190 d) H (hSeq (g3 call k [1,1,1,1,1,1,0,1,0,0,1,0,0,1,1,1]) (hBlock 1 (hSeq (g3 call k [1,1,1,1,1,1,0,1,0,0,1,1]) (hLoop ag_l8 (hBlock 0 (hSeq (g3 call k [1,1,1,1,1,1,1]) (hFin Tryd.prog Tryd.f3))))))) = f3_r13x call k sg_l8 (d 1) (d 5) (d 6) (d 7) (d 8) (d 9) (d 10) H := by
  unfold f3_r13x
  rw [n3_49]
  rw [s3_22]
  refine onV_c fun v1 => ?_
  refine onV_c fun v2 => ?_
  refine onCall_c fun v3 H4 => ?_
  refine onV_c fun v5 => ?_
  refine onV_c fun v6 => ?_
  rw [hSeq_n]
  rw [n3_50]
  generalize e : (FG 190 d [(12, v6), (11, v5), (79, v6), (78, v5), (69, v3), (77, v3), (76, v2), (75, v1), (74, (d 10)), (73, (d 8)), (72, (d 8)), (71, (d 5)), (70, (d 6))]) = a
  rw [show a = (FF 190 (gf a)) from (FF_gf (by subst e; exact FG_len)).symm]
  exact (f3_r14_eq (d := gf a) call k ag_l8 sg_l8 h_l8).trans (by subst e; kernel_rfl)
noncomputable def f3_g11_5 (call : Handle) (k : Nat) (sg_l8 : Sg6) (x53 : Value) (x1 x5 x6 x7 x8 x9 x10 : Value) (H : GH) : M (Value × GH) :=
 onBool (asB x53)
  (onV (oIndexAddr Tryd.prog 24 x1 x9) fun v1 =>
  onV (gLoad Tryd.prog 5 v1 H) fun v2 =>
  onV ((oBin Tryd.prog .rem 5 v2 (.int .u8 40)).filter closed) fun v3 =>
  onV ((oConvert Tryd.prog 5 3 v3).filter closed) fun v4 =>
  onV ((oBin Tryd.prog .lss 3 v4 x10).filter closed) fun v5 =>
  onBool (asB v5)
  ((f3_r12 call k (sg_l8) x1 x5 x6 x7 x8 x9 H))
  ((f3_r13 call k (sg_l8) x1 x5 x6 x7 x8 x9 x10 H)))
  ((f3_r13x call k (sg_l8) x1 x5 x6 x7 x8 x9 x10 H))
theorem f3_g11_5_true (call : Handle) (k : Nat) (ag_l8 : AG) (sg_l8 : Sg6) (h_l8 : f3_l8_P ag_l8 sg_l8) : o3 0 call [1,1,1,1,1,1,0,1,0,0,1,0,0,1,0,0] 5 (FG 190 d [(53, (.bool true))]) H ((hSeq (g3 call k [1,1,1,1,1,1,0,1,0,0,1,0,0,1,0,1]) (hSeq (g3 call k [1,1,1,1,1,1,0,1,0,0,1,0,0,1,1]) (hBlock 1 (hSeq (g3 call k [1,1,1,1,1,1,0,1,0,0,1,1]) (hLoop ag_l8 (hBlock 0 (hSeq (g3 call k [1,1,1,1,1,1,1]) (hFin Tryd.prog Tryd.f3)))))))) .normal) =
  onV (oIndexAddr Tryd.prog 24 (d 1) (d 9)) fun v1 =>
  onV (gLoad Tryd.prog 5 v1 H) fun v2 =>
  onV ((oBin Tryd.prog .rem 5 v2 (.int .u8 40)).filter closed) fun v3 =>
  onV ((oConvert Tryd.prog 5 3 v3).filter closed) fun v4 =>
  onV ((oBin Tryd.prog .lss 3 v4 (d 10)).filter closed) fun v5 =>
  onBool (asB v5)
  ((f3_r12 call k (sg_l8) (d 1) (d 5) (d 6) (d 7) (d 8) (d 9) H))
  ((f3_r13 call k (sg_l8) (d 1) (d 5) (d 6) (d 7) (d 8) (d 9) (d 10) H)) := by
  rw [s3_16]
  refine onV_c fun v1 => ?_
  refine onV_c fun v2 => ?_
  refine onV_c fun v3 => ?_
  refine onV_c fun v4 => ?_
  refine onV_c fun v5 => ?_
  rw [hSeq_n]
  rw [n3_41]
  refine onBool_cc (by kernel_rfl) ?_ ?_
  · generalize e : (FG 190 d [(62, v5), (61, v5), (60, (d 10)), (59, v4), (58, v3), (57, v2), (56, v1), (55, (d 9)), (54, (d 1)), (53, (.bool true))]) = a
    rw [show a = (FF 190 (gf a)) from (FF_gf (by subst e; exact FG_len)).symm]
    exact (f3_r12_eq (d := gf a) call k ag_l8 sg_l8 h_l8).trans (by subst e; kernel_rfl)
  · rw [n3_42]
    rw [hSeq_n]
    generalize e : (FG 190 d [(62, v5), (61, v5), (60, (d 10)), (59, v4), (58, v3), (57, v2), (56, v1), (55, (d 9)), (54, (d 1)), (53, (.bool true))]) = a
    rw [show a = (FF 190 (gf a)) from (FF_gf (by subst e; exact FG_len)).symm]
    exact (f3_r13_eq (d := gf a) call k ag_l8 sg_l8 h_l8).trans (by subst e; kernel_rfl)
theorem f3_g11_5_false (call : Handle) (k : Nat) (ag_l8 : AG) (sg_l8 : Sg6) (h_l8 : f3_l8_P ag_l8 sg_l8) : o3 0 call [1,1,1,1,1,1,0,1,0,0,1,0,0,1,0,0] 5 (FG 190 d [(53, (.bool false))]) H ((hSeq (g3 call k [1,1,1,1,1,1,0,1,0,0,1,0,0,1,0,1]) (hSeq (g3 call k [1,1,1,1,1,1,0,1,0,0,1,0,0,1,1]) (hBlock 1 (hSeq (g3 call k [1,1,1,1,1,1,0,1,0,0,1,1]) (hLoop ag_l8 (hBlock 0 (hSeq (g3 call k [1,1,1,1,1,1,1]) (hFin Tryd.prog Tryd.f3)))))))) .normal) =
  (f3_r13x call k (sg_l8) (d 1) (d 5) (d 6) (d 7) (d 8) (d 9) (d 10) H) := by
  rw [s3_17]
  rw [hSeq_n]
  rw [n3_41]
  refine (onBool_ff (by kernel_rfl)).trans ?_
  rw [n3_42]
  rw [hSeq_n]
  rw [n3_43]
  generalize e : (FG 190 d [(62, (.bool false)), (61, undef), (60, undef), (59, undef), (58, undef), (57, undef), (56, undef), (55, undef), (54, undef), (53, (.bool false))]) = a
  rw [show a = (FF 190 (gf a)) from (FF_gf (by subst e; exact FG_len)).symm]
  exact (f3_r13x_eq (d := gf a) call k ag_l8 sg_l8 h_l8).trans (by subst e; kernel_rfl)
theorem f3_g11_5_eq (call : Handle) (k : Nat) (ag_l8 : AG) (sg_l8 : Sg6) (h_l8 : f3_l8_P ag_l8 sg_l8) : onGrd true xg (o3 0 call [1,1,1,1,1,1,0,1,0,0,1,0,0,1,0,0] 5 (FG 190 d [(53, xg)]) H ((hSeq (g3 call k [1,1,1,1,1,1,0,1,0,0,1,0,0,1,0,1]) (hSeq (g3 call k [1,1,1,1,1,1,0,1,0,0,1,0,0,1,1]) (hBlock 1 (hSeq (g3 call k [1,1,1,1,1,1,0,1,0,0,1,1]) (hLoop ag_l8 (hBlock 0 (hSeq (g3 call k [1,1,1,1,1,1,1]) (hFin Tryd.prog Tryd.f3)))))))) .normal)) =
  f3_g11_5 call k sg_l8 xg (d 1) (d 5) (d 6) (d 7) (d 8) (d 9) (d 10) H := by
  cases xg with
  | bool b => cases b with
    | true => exact onGrd_b.trans (f3_g11_5_true call k ag_l8 sg_l8 h_l8)
    | false => exact onGrd_b.trans (f3_g11_5_false call k ag_l8 sg_l8 h_l8)
  | _ => kernel_rfl
noncomputable def f3_r11 (call : Handle) (k : Nat) (sg_l8 : Sg6) (x1 x5 x6 x7 x8 x9 x10 : Value) (H : GH) : M (Value × GH) :=
  onV (oLen Tryd.prog 24 x1) fun v1 =>
  onV ((oBin Tryd.prog .lss 3 x9 v1).filter closed) fun v2 =>
  (f3_g11_5 call k (sg_l8) v2 x1 x5 x6 x7 x8 x9 x10 H)
theorem f3_r11_eq (call : Handle) (k : Nat) (ag_l8 : AG) (sg_l8 : Sg6) (h_l8 : f3_l8_P ag_l8 sg_l8) : g3 call k [1,1,1,1,1,1,0,1,0,0,1,0,0,1,0,0] (FF 190 d) H (hSeq (g3 call k [1,1,1,1,1,1,0,1,0,0,1,0,0,1,0,1]) (hSeq (g3 call k [1,1,1,1,1,1,0,1,0,0,1,0,0,1,1]) (hBlock 1 (hSeq (g3 call k [1,1,1,1,1,1,0,1,0,0,1,1]) (hLoop ag_l8 (hBlock 0 (hSeq (g3 call k [1,1,1,1,1,1,1]) (hFin Tryd.prog Tryd.f3)))))))) = f3_r11 call k sg_l8 (d 1) (d 5) (d 6) (d 7) (d 8) (d 9) (d 10) H := by
  unfold f3_r11
  rw [n3_35]
  rw [o3_s 0 5, s3_13]
  refine onV_c fun v1 => ?_
  refine onV_c fun v2 => ?_
  generalize e : (FG 190 d [(53, v2), (52, v2), (51, v1), (50, (d 1)), (49, (d 9))]) = a
  rw [show a = (FG 190 (gf a) [(53, v2)]) from (FG_eq (by subst e; exact FG_len) (FS_cons (by subst e; kernel_rfl) (FS_nil))).symm]
  exact (f3_g11_5_eq (d := gf a) call k ag_l8 sg_l8 h_l8).trans (by subst e; kernel_rfl)
noncomputable def f3_g29_30 (call : Handle) (k : Nat) (x187 : Value) (H : GH) : M (Value × GH) :=
 onBool (asB x187)
  (onCall 3 call (.func (.func 4) #[] #[]) [] H fun v1 H2 =>
  some [(v1, H2)])
  (some [((.bool false), H)])
theorem f3_g29_30_true (call : Handle) (k : Nat) : o3 3 call [1,1,1,1,1,1,1,1,1,1,1,0] 30 (FG 190 d [(187, (.bool true))]) H ((hSeq (g3 call k [1,1,1,1,1,1,1,1,1,1,1,1]) (hFin Tryd.prog Tryd.f3)) .normal) =
  onCall 3 call (.func (.func 4) #[] #[]) [] H fun v1 H2 =>
  some [(v1, H2)] := by
  rw [s3_49]
  refine onCall_c fun v1 H2 => ?_
  rw [hSeq_n]
  rw [n3_58]
  kernel_rfl
theorem f3_g29_30_false (call : Handle) (k : Nat) : o3 3 call [1,1,1,1,1,1,1,1,1,1,1,0] 30 (FG 190 d [(187, (.bool false))]) H ((hSeq (g3 call k [1,1,1,1,1,1,1,1,1,1,1,1]) (hFin Tryd.prog Tryd.f3)) .normal) =
  some [((.bool false), H)] := by
  rw [s3_50]
  rw [hSeq_n]
  rw [n3_58]
  kernel_rfl
theorem f3_g29_30_eq (call : Handle) (k : Nat) : onGrd true xg (o3 3 call [1,1,1,1,1,1,1,1,1,1,1,0] 30 (FG 190 d [(187, xg)]) H ((hSeq (g3 call k [1,1,1,1,1,1,1,1,1,1,1,1]) (hFin Tryd.prog Tryd.f3)) .normal)) =
  f3_g29_30 call k xg H := by
  cases xg with
  | bool b => cases b with
    | true => exact onGrd_b.trans (f3_g29_30_true call k)
    | false => exact onGrd_b.trans (f3_g29_30_false call k)
  | _ => kernel_rfl
noncomputable def f3_g29_26 (call : Handle) (k : Nat) (x183 : Value) (x26 : Value) (H : GH) : M (Value × GH) :=
 onBool (asB x183)
  (onV ((oBin Tryd.prog .eql 28 x26 (.int .i64 6)).filter closed) fun v1 =>
  (f3_g29_30 call k v1 H))
  (some [((.bool false), H)])
theorem f3_g29_26_true (call : Handle) (k : Nat) : o3 3 call [1,1,1,1,1,1,1,1,1,1,1,0] 26 (FG 190 d [(183, (.bool true))]) H ((hSeq (g3 call k [1,1,1,1,1,1,1,1,1,1,1,1]) (hFin Tryd.prog Tryd.f3)) .normal) =
  onV ((oBin Tryd.prog .eql 28 (d 26) (.int .i64 6)).filter closed) fun v1 =>
  (f3_g29_30 call k v1 H) := by
  rw [o3_s 26 4, s3_44]
  refine onV_c fun v1 => ?_
  generalize e : (FG 190 d [(187, v1), (186, v1), (185, v1), (184, (d 26)), (183, (.bool true))]) = a
  rw [show a = (FG 190 (gf a) [(187, v1)]) from (FG_eq (by subst e; exact FG_len) (FS_cons (by subst e; kernel_rfl) (FS_nil))).symm]
  exact (f3_g29_30_eq (d := gf a) call k).trans (by subst e; kernel_rfl)
theorem f3_g29_26_false (call : Handle) (k : Nat) : o3 3 call [1,1,1,1,1,1,1,1,1,1,1,0] 26 (FG 190 d [(183, (.bool false))]) H ((hSeq (g3 call k [1,1,1,1,1,1,1,1,1,1,1,1]) (hFin Tryd.prog Tryd.f3)) .normal) =
  some [((.bool false), H)] := by
  rw [s3_45]
  rw [hSeq_n]
  rw [n3_58]
  kernel_rfl
theorem f3_g29_26_eq (call : Handle) (k : Nat) : onGrd true xg (o3 3 call [1,1,1,1,1,1,1,1,1,1,1,0] 26 (FG 190 d [(183, xg)]) H ((hSeq (g3 call k [1,1,1,1,1,1,1,1,1,1,1,1]) (hFin Tryd.prog Tryd.f3)) .normal)) =
  f3_g29_26 call k xg (d 26) H := by
  cases xg with
  | bool b => cases b with
    | true => exact onGrd_b.trans (f3_g29_26_true call k)
    | false => exact onGrd_b.trans (f3_g29_26_false call k)
  | _ => kernel_rfl
noncomputable def f3_g29_22 (call : Handle) (k : Nat) (x179 : Value) (x24 x26 : Value) (H : GH) : M (Value × GH) :=
 onBool (asB x179)
  (onV ((oBin Tryd.prog .eql 28 x24 (.int .i64 6)).filter closed) fun v1 =>
  (f3_g29_26 call k v1 x26 H))
  (some [((.bool false), H)])
theorem f3_g29_22_true (call : Handle) (k : Nat) : o3 3 call [1,1,1,1,1,1,1,1,1,1,1,0] 22 (FG 190 d [(179, (.bool true))]) H ((hSeq (g3 call k [1,1,1,1,1,1,1,1,1,1,1,1]) (hFin Tryd.prog Tryd.f3)) .normal) =
  onV ((oBin Tryd.prog .eql 28 (d 24) (.int .i64 6)).filter closed) fun v1 =>
  (f3_g29_26 call k v1 (d 26) H) := by
  rw [o3_s 22 4, s3_39]
  refine onV_c fun v1 => ?_
  generalize e : (FG 190 d [(183, v1), (182, v1), (181, v1), (180, (d 24)), (179, (.bool true))]) = a
  rw [show a = (FG 190 (gf a) [(183, v1)]) from (FG_eq (by subst e; exact FG_len) (FS_cons (by subst e; kernel_rfl) (FS_nil))).symm]
  exact (f3_g29_26_eq (d := gf a) call k).trans (by subst e; kernel_rfl)
theorem f3_g29_22_false (call : Handle) (k : Nat) : o3 3 call [1,1,1,1,1,1,1,1,1,1,1,0] 22 (FG 190 d [(179, (.bool false))]) H ((hSeq (g3 call k [1,1,1,1,1,1,1,1,1,1,1,1]) (hFin Tryd.prog Tryd.f3)) .normal) =
  some [((.bool false), H)] := by
  rw [s3_40]
  rw [hSeq_n]
  rw [n3_58]
  kernel_rfl
theorem f3_g29_22_eq (call : Handle) (k : Nat) : onGrd true xg (o3 3 call [1,1,1,1,1,1,1,1,1,1,1,0] 22 (FG 190 d [(179, xg)]) H ((hSeq (g3 call k [1,1,1,1,1,1,1,1,1,1,1,1]) (hFin Tryd.prog Tryd.f3)) .normal)) =
  f3_g29_22 call k xg (d 24) (d 26) H := by
  cases xg with
  | bool b => cases b with
    | true => exact onGrd_b.trans (f3_g29_22_true call k)
    | false => exact onGrd_b.trans (f3_g29_22_false call k)
  | _ => kernel_rfl
noncomputable def f3_g29_16 (call : Handle) (k : Nat) (x173 : Value) (x5 x21 x24 x26 : Value) (H : GH) : M (Value × GH) :=
 onBool (asB x173)
  (onCall 3 call (.func (.func 10) #[] #[]) [x21, x5] H fun v1 H2 =>
  onV ((oBin Tryd.prog .eql 3 v1 (.int .i64 1)).filter closed) fun v3 =>
  (f3_g29_22 call k v3 x24 x26 H2))
  (some [((.bool false), H)])
theorem f3_g29_16_true (call : Handle) (k : Nat) : o3 3 call [1,1,1,1,1,1,1,1,1,1,1,0] 16 (FG 190 d [(173, (.bool true))]) H ((hSeq (g3 call k [1,1,1,1,1,1,1,1,1,1,1,1]) (hFin Tryd.prog Tryd.f3)) .normal) =
  onCall 3 call (.func (.func 10) #[] #[]) [(d 21), (d 5)] H fun v1 H2 =>
  onV ((oBin Tryd.prog .eql 3 v1 (.int .i64 1)).filter closed) fun v3 =>
  (f3_g29_22 call k v3 (d 24) (d 26) H2) := by
  rw [o3_s 16 6, s3_36]
  refine onCall_c fun v1 H2 => ?_
  refine onV_c fun v3 => ?_
  generalize e : (FG 190 d [(179, v3), (178, v3), (177, v3), (176, v1), (175, (d 5)), (174, (d 21)), (173, (.bool true))]) = a
  rw [show a = (FG 190 (gf a) [(179, v3)]) from (FG_eq (by subst e; exact FG_len) (FS_cons (by subst e; kernel_rfl) (FS_nil))).symm]
  exact (f3_g29_22_eq (d := gf a) call k).trans (by subst e; kernel_rfl)
theorem f3_g29_16_false (call : Handle) (k : Nat) : o3 3 call [1,1,1,1,1,1,1,1,1,1,1,0] 16 (FG 190 d [(173, (.bool false))]) H ((hSeq (g3 call k [1,1,1,1,1,1,1,1,1,1,1,1]) (hFin Tryd.prog Tryd.f3)) .normal) =
  some [((.bool false), H)] := by
  rw [s3_37]
  rw [hSeq_n]
  rw [n3_58]
  kernel_rfl
theorem f3_g29_16_eq (call : Handle) (k : Nat) : onGrd true xg (o3 3 call [1,1,1,1,1,1,1,1,1,1,1,0] 16 (FG 190 d [(173, xg)]) H ((hSeq (g3 call k [1,1,1,1,1,1,1,1,1,1,1,1]) (hFin Tryd.prog Tryd.f3)) .normal)) =
  f3_g29_16 call k xg (d 5) (d 21) (d 24) (d 26) H := by
  cases xg with
  | bool b => cases b with
    | true => exact onGrd_b.trans (f3_g29_16_true call k)
    | false => exact onGrd_b.trans (f3_g29_16_false call k)
  | _ => kernel_rfl
noncomputable def f3_g29_12 (call : Handle) (k : Nat) (x169 : Value) (x5 x21 x22 x24 x26 : Value) (H : GH) : M (Value × GH) :=
 onBool (asB x169)
  (onV ((oBin Tryd.prog .eql 28 x22 (.int .i64 0)).filter closed) fun v1 =>
  (f3_g29_16 call k v1 x5 x21 x24 x26 H))
  (some [((.bool false), H)])
theorem f3_g29_12_true (call : Handle) (k : Nat) : o3 3 call [1,1,1,1,1,1,1,1,1,1,1,0] 12 (FG 190 d [(169, (.bool true))]) H ((hSeq (g3 call k [1,1,1,1,1,1,1,1,1,1,1,1]) (hFin Tryd.prog Tryd.f3)) .normal) =
  onV ((oBin Tryd.prog .eql 28 (d 22) (.int .i64 0)).filter closed) fun v1 =>
  (f3_g29_16 call k v1 (d 5) (d 21) (d 24) (d 26) H) := by
  rw [o3_s 12 4, s3_31]
  refine onV_c fun v1 => ?_
  generalize e : (FG 190 d [(173, v1), (172, v1), (171, v1), (170, (d 22)), (169, (.bool true))]) = a
  rw [show a = (FG 190 (gf a) [(173, v1)]) from (FG_eq (by subst e; exact FG_len) (FS_cons (by subst e; kernel_rfl) (FS_nil))).symm]
  exact (f3_g29_16_eq (d := gf a) call k).trans (by subst e; kernel_rfl)
theorem f3_g29_12_false (call : Handle) (k : Nat) : o3 3 call [1,1,1,1,1,1,1,1,1,1,1,0] 12 (FG 190 d [(169, (.bool false))]) H ((hSeq (g3 call k [1,1,1,1,1,1,1,1,1,1,1,1]) (hFin Tryd.prog Tryd.f3)) .normal) =
  some [((.bool false), H)] := by
  rw [s3_32]
  rw [hSeq_n]
  rw [n3_58]
  kernel_rfl
theorem f3_g29_12_eq (call : Handle) (k : Nat) : onGrd true xg (o3 3 call [1,1,1,1,1,1,1,1,1,1,1,0] 12 (FG 190 d [(169, xg)]) H ((hSeq (g3 call k [1,1,1,1,1,1,1,1,1,1,1,1]) (hFin Tryd.prog Tryd.f3)) .normal)) =
  f3_g29_12 call k xg (d 5) (d 21) (d 22) (d 24) (d 26) H := by
  cases xg with
  | bool b => cases b with
    | true => exact onGrd_b.trans (f3_g29_12_true call k)
    | false => exact onGrd_b.trans (f3_g29_12_false call k)
  | _ => kernel_rfl
noncomputable def f3_g29_3 (call : Handle) (k : Nat) (x160 : Value) (x5 x7 x19 x21 x22 x24 x26 : Value) (H : GH) : M (Value × GH) :=
 onBool (asB x160)
  (onV (gConvert Tryd.prog 24 9 x19 H) fun v1 =>
  onClosed true v1 <|
  onVH (gBuildSlice Tryd.prog 24 3 [(0, (.int .u8 0)), (1, (.int .u8 225)), (2, (.int .u8 240))] H) fun v2 H3 =>
  onVH (gAppend Tryd.prog 24 24 x7 v2 H3) fun v4 H5 =>
  onSame (gConvert Tryd.prog 24 9 x19 H3) (gConvert Tryd.prog 24 9 x19 H5) <|
  onV (gConvert Tryd.prog 24 9 v4 H5) fun v6 =>
  onV ((oBin Tryd.prog .eql 9 v1 v6).filter closed) fun v7 =>
  (f3_g29_12 call k v7 x5 x21 x22 x24 x26 H5))
  (some [((.bool false), H)])
theorem f3_g29_3_true (call : Handle) (k : Nat) : o3 3 call [1,1,1,1,1,1,1,1,1,1,1,0] 3 (FG 190 d [(160, (.bool true))]) H ((hSeq (g3 call k [1,1,1,1,1,1,1,1,1,1,1,1]) (hFin Tryd.prog Tryd.f3)) .normal) =
  onV (gConvert Tryd.prog 24 9 (d 19) H) fun v1 =>
  onClosed true v1 <|
  onVH (gBuildSlice Tryd.prog 24 3 [(0, (.int .u8 0)), (1, (.int .u8 225)), (2, (.int .u8 240))] H) fun v2 H3 =>
  onVH (gAppend Tryd.prog 24 24 (d 7) v2 H3) fun v4 H5 =>
  onSame (gConvert Tryd.prog 24 9 (d 19) H3) (gConvert Tryd.prog 24 9 (d 19) H5) <|
  onV (gConvert Tryd.prog 24 9 v4 H5) fun v6 =>
  onV ((oBin Tryd.prog .eql 9 v1 v6).filter closed) fun v7 =>
  (f3_g29_12 call k v7 (d 5) (d 21) (d 22) (d 24) (d 26) H5) := by
  rw [o3_s 3 9, s3_26]
  refine onV_c fun v1 => ?_
  refine onClosed_c ?_
  refine onVH_c fun v2 H3 => ?_
  refine onVH_c fun v4 H5 => ?_
  refine onSame_c ?_
  refine onV_c fun v6 => ?_
  refine onV_c fun v7 => ?_
  generalize e : (FG 190 d [(169, v7), (168, v7), (167, v7), (166, v6), (165, v4), (164, v2), (163, (d 7)), (162, v1), (161, (d 19)), (160, (.bool true))]) = a
  rw [show a = (FG 190 (gf a) [(169, v7)]) from (FG_eq (by subst e; exact FG_len) (FS_cons (by subst e; kernel_rfl) (FS_nil))).symm]
  exact (f3_g29_12_eq (d := gf a) call k).trans (by subst e; kernel_rfl)
theorem f3_g29_3_false (call : Handle) (k : Nat) : o3 3 call [1,1,1,1,1,1,1,1,1,1,1,0] 3 (FG 190 d [(160, (.bool false))]) H ((hSeq (g3 call k [1,1,1,1,1,1,1,1,1,1,1,1]) (hFin Tryd.prog Tryd.f3)) .normal) =
  some [((.bool false), H)] := by
  rw [s3_27]
  rw [hSeq_n]
  rw [n3_58]
  kernel_rfl
theorem f3_g29_3_eq (call : Handle) (k : Nat) : onGrd true xg (o3 3 call [1,1,1,1,1,1,1,1,1,1,1,0] 3 (FG 190 d [(160, xg)]) H ((hSeq (g3 call k [1,1,1,1,1,1,1,1,1,1,1,1]) (hFin Tryd.prog Tryd.f3)) .normal)) =
  f3_g29_3 call k xg (d 5) (d 7) (d 19) (d 21) (d 22) (d 24) (d 26) H := by
  cases xg with
  | bool b => cases b with
    | true => exact onGrd_b.trans (f3_g29_3_true call k)
    | false => exact onGrd_b.trans (f3_g29_3_false call k)
  | _ => kernel_rfl
noncomputable def f3_r29 (call : Handle) (k : Nat) (x5 x7 x19 x20 x21 x22 x24 x26 : Value) (H : GH) : M (Value × GH) :=
  onV ((oBin Tryd.prog .eql 28 x20 (.int .i64 0)).filter closed) fun v1 =>
  (f3_g29_3 call k v1 x5 x7 x19 x21 x22 x24 x26 H)
theorem f3_r29_eq (call : Handle) (k : Nat) : g3 call k [1,1,1,1,1,1,1,1,1,1,1,0] (FF 190 d) H (hSeq (g3 call k [1,1,1,1,1,1,1,1,1,1,1,1]) (hFin Tryd.prog Tryd.f3)) = f3_r29 call k (d 5) (d 7) (d 19) (d 20) (d 21) (d 22) (d 24) (d 26) H := by
  unfold f3_r29
  rw [n3_51]
  rw [o3_s 0 3, s3_23]
  refine onV_c fun v1 => ?_
  generalize e : (FG 190 d [(160, v1), (159, v1), (158, (d 20))]) = a
  rw [show a = (FG 190 (gf a) [(160, v1)]) from (FG_eq (by subst e; exact FG_len) (FS_cons (by subst e; kernel_rfl) (FS_nil))).symm]
  exact (f3_g29_3_eq (d := gf a) call k).trans (by subst e; kernel_rfl)
noncomputable def f3_r27 (call : Handle) (k : Nat) (x5 x7 x19 x20 x21 x22 : Value) (H : GH) : M (Value × GH) :=
  onCall 0 call (.func (.func 6) #[] #[]) [x19, x5] H fun v1 H2 =>
  onV (oExtract v1 0) fun v3 =>
  onV (oExtract v1 1) fun v4 =>
  onCall 0 call (.func (.func 11) #[] #[]) [x19] H2 fun v5 H6 =>
  onV (oExtract v5 0) fun v7 =>
  onV (oExtract v5 1) fun v8 =>
  (f3_r29 call k x5 x7 x19 x20 x21 x22 v4 v8 H6)
theorem f3_r27_eq (call : Handle) (k : Nat) : g3 call k [1,1,1,1,1,1,1,1,1,0] (FF 190 d) H (hSeq (g3 call k [1,1,1,1,1,1,1,1,1,1]) (hFin Tryd.prog Tryd.f3)) = f3_r27 call k (d 5) (d 7) (d 19) (d 20) (d 21) (d 22) H := by
  unfold f3_r27
  rw [n3_44]
  rw [s3_18]
  refine onCall_c fun v1 H2 => ?_
  refine onV_c fun v3 => ?_
  refine onV_c fun v4 => ?_
  rw [hSeq_n]
  rw [n3_45]
  rw [n3_46]
  rw [s3_19]
  refine onCall_c fun v5 H6 => ?_
  refine onV_c fun v7 => ?_
  refine onV_c fun v8 => ?_
  rw [hSeq_n]
  rw [n3_47]
  generalize e : (FG 190 d [(26, v8), (25, v7), (157, v8), (156, v7), (153, v5), (155, v5), (154, (d 19)), (24, v4), (23, v3), (152, v4), (151, v3), (147, v1), (150, v1), (149, (d 5)), (148, (d 19))]) = a
  rw [show a = (FF 190 (gf a)) from (FF_gf (by subst e; exact FG_len)).symm]
  exact (f3_r29_eq (d := gf a) call k).trans (by subst e; kernel_rfl)
noncomputable def f3_r25 (call : Handle) (k : Nat) (x5 x6 x7 : Value) (H : GH) : M (Value × GH) :=
  onCall 0 call (.func (.func 11) #[] #[]) [x6] H fun v1 H2 =>
  onV (oExtract v1 0) fun v3 =>
  onV (oExtract v1 1) fun v4 =>
  onCall 0 call (.func (.func 9) #[] #[]) [v3] H2 fun v5 H6 =>
  onV (oExtract v5 0) fun v7 =>
  onV (oExtract v5 1) fun v8 =>
  (f3_r27 call k x5 x7 v3 v4 v7 v8 H6)
theorem f3_r25_eq (call : Handle) (k : Nat) : g3 call k [1,1,1,1,1,1,1] (FF 190 d) H (hFin Tryd.prog Tryd.f3) = f3_r25 call k (d 5) (d 6) (d 7) H := by
  unfold f3_r25
  rw [n3_36]
  rw [n3_37]
  rw [s3_14]
  refine onCall_c fun v1 H2 => ?_
  refine onV_c fun v3 => ?_
  refine onV_c fun v4 => ?_
  rw [hSeq_n]
  rw [n3_38]
  rw [n3_39]
  rw [s3_15]
  refine onCall_c fun v5 H6 => ?_
  refine onV_c fun v7 => ?_
  refine onV_c fun v8 => ?_
  rw [hSeq_n]
  rw [n3_40]
  generalize e : (FG 190 d [(22, v8), (21, v7), (146, v8), (145, v7), (142, v5), (144, v5), (143, v3), (20, v4), (19, v3), (141, v4), (140, v3), (137, v1), (139, v1), (138, (d 6))]) = a
  rw [show a = (FF 190 (gf a)) from (FF_gf (by subst e; exact FG_len)).symm]
  exact (f3_r27_eq (d := gf a) call k).trans (by subst e; kernel_rfl)
noncomputable def f3_l8b (call : Handle) (k : Nat) (sg_l8 : Sg6) (x1 x5 x6 x7 x8 x9 : Value) (H : GH) : M (Value × GH) :=
  onV (oLen Tryd.prog 24 x1) fun v1 =>
  onV ((oBin Tryd.prog .leq 3 x9 v1).filter closed) fun v2 =>
  onBool (asB v2)
  (onV (oLen Tryd.prog 26 x5) fun v3 =>
  onV ((oBin Tryd.prog .sub 3 v3 x8).filter closed) fun v4 =>
  (f3_r11 call k (sg_l8) x1 x5 x6 x7 x8 x9 v4 H))
  ((f3_r25 call k x5 x6 x7 H))
theorem f3_l8b_eq (call : Handle) (k : Nat) (ag_l8 : AG) (sg_l8 : Sg6) (h_l8 : f3_l8_P ag_l8 sg_l8) : g3 call k [1,1,1,1,1,1,0,1,0,0] (FF 190 d) H (hLoop ag_l8 (hBlock 0 (hSeq (g3 call k [1,1,1,1,1,1,1]) (hFin Tryd.prog Tryd.f3)))) = f3_l8b call k sg_l8 (d 1) (d 5) (d 6) (d 7) (d 8) (d 9) H := by
  unfold f3_l8b
  rw [n3_23]
  rw [n3_24]
  rw [n3_25]
  rw [s3_11]
  refine onV_c fun v1 => ?_
  refine onV_c fun v2 => ?_
  rw [hSeq_n]
  rw [n3_26]
  refine onBool_cc (by kernel_rfl) ?_ ?_
  · rw [n3_27]
    rw [hSeq_n]
    rw [n3_28]
    rw [n3_29]
    rw [n3_30]
    rw [n3_31]
    rw [s3_12]
    refine onV_c fun v3 => ?_
    refine onV_c fun v4 => ?_
    rw [hSeq_n]
    rw [n3_32]
    rw [n3_33]
    generalize e : (FG 190 d [(10, v4), (48, v4), (47, (d 8)), (46, v3), (45, (d 5)), (42, v2), (41, v1), (40, (d 1)), (39, (d 9))]) = a
    rw [show a = (FF 190 (gf a)) from (FF_gf (by subst e; exact FG_len)).symm]
    exact (f3_r11_eq (d := gf a) call k ag_l8 sg_l8 h_l8).trans (by subst e; kernel_rfl)
  · rw [n3_34]
    rw [hSeq_e, hLoop_e, hBlock_hit]
    rw [hSeq_n]
    generalize e : (FG 190 d [(42, v2), (41, v1), (40, (d 1)), (39, (d 9))]) = a
    rw [show a = (FF 190 (gf a)) from (FF_gf (by subst e; exact FG_len)).symm]
    exact (f3_r25_eq (d := gf a) call k).trans (by subst e; kernel_rfl)
noncomputable def f3_l8 (call : Handle) (k : Nat) : Nat → Value → Value → Value → Value → Value → Value → GH → M (Value × GH)
  | 0, _, _, _, _, _, _, _ => none
  | r + 1, x1, x5, x6, x7, x8, x9, H => f3_l8b call k (f3_l8 call k r) x1 x5 x6 x7 x8 x9 H
theorem f3_l8_eq (call : Handle) (k : Nat) : ∀ (r : Nat), f3_l8_P (gLoop (g3 call k [1,1,1,1,1,1,0,1,0,0]) (hBlock 0 (hSeq (g3 call k [1,1,1,1,1,1,1]) (hFin Tryd.prog Tryd.f3))) r) (f3_l8 call k r) := by
  intro r
  induction r with
  | zero => unfold f3_l8_P; intros; rfl
  | succ r ih => unfold f3_l8_P; intros; exact f3_l8b_eq call k _ _ ih
noncomputable def f3_g1_4 (call : Handle) (k : Nat) (x30 : Value) (x0 x1 : Value) (H : GH) : M (Value × GH) :=
 onBool (asB x30)
  (onCall 0 call (.func (.func 4) #[] #[]) [] H fun v1 H2 =>
  some [(v1, H2)])
  (onV (oLen Tryd.prog 24 x1) fun v1 =>
  onV ((oBin Tryd.prog .gtr 3 v1 (.int .i64 20)).filter closed) fun v2 =>
  onBool (asB v2)
  (onCall 0 call (.func (.func 4) #[] #[]) [] H fun v3 H4 =>
  some [(v3, H4)])
  (onCall 0 call (.func (.func 5) #[] #[]) [x0] H fun v5 H6 =>
  onVH (gBuildSlice Tryd.prog 24 4 [(0, (.int .u8 71)), (1, (.int .u8 84)), (2, (.int .u8 1)), (3, (.int .u8 0))] H6) fun v7 H8 =>
  (f3_l8 call k k x1 v5 (.slice none 0 0) v7 (.int .i64 0) (.int .i64 0) H8)))
theorem f3_g1_4_true (call : Handle) (k : Nat) : o3 0 call [1,0,0] 4 (FG 190 d [(30, (.bool true))]) H ((hSeq (g3 call k [1,0,1]) (hSeq (g3 call k [1,1]) (hFin Tryd.prog Tryd.f3))) .normal) =
  onCall 0 call (.func (.func 4) #[] #[]) [] H fun v1 H2 =>
  some [(v1, H2)] := by
  rw [s3_2]
  rw [hSeq_n]
  rw [n3_5]
  refine (onBool_tt (by kernel_rfl)).trans ?_
  rw [n3_6]
  rw [n3_7]
  rw [s3_3]
  refine onCall_c fun v1 H2 => ?_
  rw [hSeq_n]
  rw [n3_8]
  rw [hSeq_r]
  kernel_rfl
theorem f3_g1_4_false (call : Handle) (k : Nat) : o3 0 call [1,0,0] 4 (FG 190 d [(30, (.bool false))]) H ((hSeq (g3 call k [1,0,1]) (hSeq (g3 call k [1,1]) (hFin Tryd.prog Tryd.f3))) .normal) =
  onV (oLen Tryd.prog 24 (d 1)) fun v1 =>
  onV ((oBin Tryd.prog .gtr 3 v1 (.int .i64 20)).filter closed) fun v2 =>
  onBool (asB v2)
  (onCall 0 call (.func (.func 4) #[] #[]) [] H fun v3 H4 =>
  some [(v3, H4)])
  (onCall 0 call (.func (.func 5) #[] #[]) [(d 0)] H fun v5 H6 =>
  onVH (gBuildSlice Tryd.prog 24 4 [(0, (.int .u8 71)), (1, (.int .u8 84)), (2, (.int .u8 1)), (3, (.int .u8 0))] H6) fun v7 H8 =>
  (f3_l8 call k k (d 1) v5 (.slice none 0 0) v7 (.int .i64 0) (.int .i64 0) H8)) := by
  rw [s3_4]
  refine onV_c fun v1 => ?_
  refine onV_c fun v2 => ?_
  rw [hSeq_n]
  rw [n3_5]
  refine onBool_cc (by kernel_rfl) ?_ ?_
  · rw [n3_6]
    rw [n3_7]
    rw [s3_5]
    refine onCall_c fun v3 H4 => ?_
    rw [hSeq_n]
    rw [n3_8]
    rw [hSeq_r]
    kernel_rfl
  · rw [n3_9]
    rw [hSeq_n]
    rw [n3_10]
    rw [n3_11]
    rw [s3_6]
    refine onCall_c fun v5 H6 => ?_
    rw [hSeq_n]
    rw [n3_12]
    rw [n3_13]
    rw [s3_7]
    rw [hSeq_n]
    rw [n3_14]
    rw [n3_15]
    rw [s3_8]
    refine onVH_c fun v7 H8 => ?_
    rw [hSeq_n]
    rw [n3_16]
    rw [n3_17]
    rw [s3_9]
    rw [hSeq_n]
    rw [n3_18]
    rw [n3_19]
    rw [n3_20]
    rw [s3_10]
    rw [hSeq_n]
    rw [n3_21]
    rw [n3_22]
    generalize e : (FG 190 d [(9, (.int .i64 0)), (8, (.int .i64 0)), (7, v7), (38, v7), (6, (.slice none 0 0)), (5, v5), (37, v5), (36, (d 0)), (34, v2), (33, v2), (32, v1), (31, (d 1)), (30, (.bool false))]) = a
    rw [show a = (FF 190 (gf a)) from (FF_gf (by subst e; exact FG_len)).symm]
    exact (f3_l8_at (d := gf a) (f3_l8_eq call k k)).trans (by subst e; kernel_rfl)
theorem f3_g1_4_eq (call : Handle) (k : Nat) : onGrd true xg (o3 0 call [1,0,0] 4 (FG 190 d [(30, xg)]) H ((hSeq (g3 call k [1,0,1]) (hSeq (g3 call k [1,1]) (hFin Tryd.prog Tryd.f3))) .normal)) =
  f3_g1_4 call k xg (d 0) (d 1) H := by
  cases xg with
  | bool b => cases b with
    | true => exact onGrd_b.trans (f3_g1_4_true call k)
    | false => exact onGrd_b.trans (f3_g1_4_false call k)
  | _ => kernel_rfl
noncomputable def f3_sh (call : Handle) (k : Nat) (p0 p1 : Value) (H : GH) : M (Value × GH) :=
  onV (oLen Tryd.prog 23 p0) fun v1 =>
  onV ((oBin Tryd.prog .gtr 3 v1 (.int .i64 80)).filter closed) fun v2 =>
  (f3_g1_4 call k v2 p0 p1 H)
theorem f3_run (call : Handle) (k : Nat) (p0 p1 : Value) (H : GH) : g3 call k [] (FG 190 (fun _ => undef) [(1, p1), (0, p0)]) H (hFin Tryd.prog Tryd.f3) = f3_sh call k p0 p1 H := by
  unfold f3_sh
  rw [n3_0]
  rw [n3_1]
  rw [s3_0]
  rw [hSeq_n]
  rw [n3_2]
  rw [n3_3]
  rw [n3_4]
  rw [o3_s 0 4, s3_1]
  refine onV_c fun v1 => ?_
  refine onV_c fun v2 => ?_
  generalize e : (FG 190 (fun _ => undef) [(30, v2), (29, v2), (28, v1), (27, p0), (4, (.bool false)), (1, p1), (0, p0)]) = a
  rw [show a = (FG 190 (gf a) [(30, v2)]) from (FG_eq (by subst e; exact FG_len) (FS_cons (by subst e; kernel_rfl) (FS_nil))).symm]
  exact (f3_g1_4_eq (d := gf a) call k).trans (by subst e; kernel_rfl)
theorem f3_eq (call : Handle) (k : Nat) (p0 p1 : Value) (H : GH) : gFunc Tryd.prog call k Tryd.f3 [p0, p1] H = f3_sh call k p0 p1 H :=
  Eq.trans (by kernel_rfl) (f3_run call k p0 p1 H)
end
end Go.Proofs.YtdhadannleldiaaDoor
