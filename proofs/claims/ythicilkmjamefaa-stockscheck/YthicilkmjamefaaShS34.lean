/- PRINTED by sh.py: shallow forms of functions of the program, each proved equal to what the ghost machine makes of its code. -/
import Derived.Test.YthicilkmjamefaaGkTop
import Derived.Test.YthicilkmjamefaaProg
namespace Go.Proofs.Ythicilkmjamefaa
open Go.Gh
set_option linter.unusedVariables false
set_option linter.unusedSimpArgs false
set_option maxRecDepth 100000
noncomputable def g34 {β : Type} (call : Handle) (k : Nat) (p : List Nat) : GA → GH → Kont β → M β := gCode Try.prog call k (fAt Try.f34 p)
noncomputable def o34 {β : Type} (d : Nat) (call : Handle) (p : List Nat) (i : Nat) : GA → GH → (GA → GH → M β) → M β := gOps Try.prog d call (opsAt (fAt Try.f34 p)) ((opsAt (fAt Try.f34 p)).drop i)
noncomputable def t34 {β : Type} (d : Nat) (call : Handle) (p : List Nat) (i n : Nat) : GA → GH → (GA → GH → M β) → M β := gOps Try.prog d call (opsAt (fAt Try.f34 p)) (((opsAt (fAt Try.f34 p)).drop i).take n)
theorem o34_s {β : Type} {d : Nat} {call : Handle} {p : List Nat} {a : GA} {H : GH} {K : GA → GH → M β} (i n : Nat) : o34 d call p i a H K = t34 d call p i n a H fun a H => o34 d call p (i + n) a H K := gOps_split i n
section
variable {β : Type} {call : Handle} {k : Nat} {a : GA} {K : Kont β} {K' : GA → GH → M β}
variable {d : Nat → Value} {xg : Value}
variable {p0 : Value}
variable {v1 v2 v3 v4 v5 v6 v7 v8 v9 : Value}
variable {H H2 H4 H7 H8 : GH}
theorem n34_0 : g34 call k [] a H K = g34 call k [0] a H (hSeq (g34 call k [1]) K) := at_seq (by kernel_rfl)
theorem n34_1 : g34 call k [0] a H K = o34 0 call [0] 0 a H (K .normal) := at_region (by kernel_rfl)
theorem n34_2 : g34 call k [1] a H K = g34 call k [1,0] a H (hSeq (g34 call k [1,1]) K) := at_seq (by kernel_rfl)
theorem n34_3 : g34 call k [1,0] a H K = g34 call k [1,0,0] a H (hSeq (g34 call k [1,0,1]) K) := at_seq (by kernel_rfl)
theorem n34_4 : g34 call k [1,0,0] a H K = o34 0 call [1,0,0] 0 a H (K .normal) := at_region (by kernel_rfl)
theorem n34_5 : g34 call k [1,0,1] a H K = onBool (asB (GA.eval a (.tmp 18))) (g34 call k [1,0,1,0] a H K) (g34 call k [1,0,1,1] a H K) := at_cond (by kernel_rfl)
theorem n34_6 : g34 call k [1,0,1,0] a H K = g34 call k [1,0,1,0,0] a H (hSeq (g34 call k [1,0,1,0,1]) K) := at_seq (by kernel_rfl)
theorem n34_7 : g34 call k [1,0,1,0,0] a H K = o34 0 call [1,0,1,0,0] 0 a H (K .normal) := at_region (by kernel_rfl)
theorem n34_8 : g34 call k [1,0,1,0,1] a H K = K .ret a H := at_ret (by kernel_rfl)
theorem n34_9 : g34 call k [1,0,1,1] a H K = K .normal a H := at_skip (by kernel_rfl)
theorem n34_10 : g34 call k [1,1] a H K = g34 call k [1,1,0] a H (hSeq (g34 call k [1,1,1]) K) := at_seq (by kernel_rfl)
theorem n34_11 : g34 call k [1,1,0] a H K = g34 call k [1,1,0,0] a H (hSeq (g34 call k [1,1,0,1]) K) := at_seq (by kernel_rfl)
theorem n34_12 : g34 call k [1,1,0,0] a H K = o34 0 call [1,1,0,0] 0 a H (K .normal) := at_region (by kernel_rfl)
theorem n34_13 : g34 call k [1,1,0,1] a H K = g34 call k [1,1,0,1,0] a H (hBlock 0 K) := at_block (by kernel_rfl)
theorem n34_14 : g34 call k [1,1,0,1,0] a H K = gLoop (g34 call k [1,1,0,1,0,0]) K k a H := at_loop (by kernel_rfl)
theorem n34_15 : g34 call k [1,1,0,1,0,0] a H K = g34 call k [1,1,0,1,0,0,0] a H (hSeq (g34 call k [1,1,0,1,0,0,1]) K) := at_seq (by kernel_rfl)
theorem n34_16 : g34 call k [1,1,0,1,0,0,0] a H K = o34 0 call [1,1,0,1,0,0,0] 0 a H (K .normal) := at_region (by kernel_rfl)
theorem n34_17 : g34 call k [1,1,0,1,0,0,1] a H K = g34 call k [1,1,0,1,0,0,1,0] a H (hSeq (g34 call k [1,1,0,1,0,0,1,1]) K) := at_seq (by kernel_rfl)
theorem n34_18 : g34 call k [1,1,0,1,0,0,1,0] a H K = onBool (asB (GA.eval a (.tmp 23))) (g34 call k [1,1,0,1,0,0,1,0,0] a H K) (g34 call k [1,1,0,1,0,0,1,0,1] a H K) := at_cond (by kernel_rfl)
theorem n34_19 : g34 call k [1,1,0,1,0,0,1,0,0] a H K = K .normal a H := at_skip (by kernel_rfl)
theorem n34_20 : g34 call k [1,1,0,1,0,0,1,1] a H K = g34 call k [1,1,0,1,0,0,1,1,0] a H (hSeq (g34 call k [1,1,0,1,0,0,1,1,1]) K) := at_seq (by kernel_rfl)
theorem n34_21 : g34 call k [1,1,0,1,0,0,1,1,0] a H K = g34 call k [1,1,0,1,0,0,1,1,0,0] a H (hBlock 1 K) := at_block (by kernel_rfl)
theorem n34_22 : g34 call k [1,1,0,1,0,0,1,1,0,0] a H K = g34 call k [1,1,0,1,0,0,1,1,0,0,0] a H (hSeq (g34 call k [1,1,0,1,0,0,1,1,0,0,1]) K) := at_seq (by kernel_rfl)
theorem n34_23 : g34 call k [1,1,0,1,0,0,1,1,0,0,0] a H K = o34 0 call [1,1,0,1,0,0,1,1,0,0,0] 0 a H (K .normal) := at_region (by kernel_rfl)
theorem n34_24 : g34 call k [1,1,0,1,0,0,1,1,0,0,1] a H K = g34 call k [1,1,0,1,0,0,1,1,0,0,1,0] a H (hSeq (g34 call k [1,1,0,1,0,0,1,1,0,0,1,1]) K) := at_seq (by kernel_rfl)
theorem n34_25 : g34 call k [1,1,0,1,0,0,1,1,0,0,1,0] a H K = o34 0 call [1,1,0,1,0,0,1,1,0,0,1,0] 0 a H (K .normal) := at_region (by kernel_rfl)
theorem n34_26 : g34 call k [1,1,0,1,0,0,1,1,0,0,1,1] a H K = onBool (asB (GA.eval a (.tmp 28))) (g34 call k [1,1,0,1,0,0,1,1,0,0,1,1,0] a H K) (g34 call k [1,1,0,1,0,0,1,1,0,0,1,1,1] a H K) := at_cond (by kernel_rfl)
theorem n34_27 : g34 call k [1,1,0,1,0,0,1,1,0,0,1,1,0] a H K = g34 call k [1,1,0,1,0,0,1,1,0,0,1,1,0,0] a H (hSeq (g34 call k [1,1,0,1,0,0,1,1,0,0,1,1,0,1]) K) := at_seq (by kernel_rfl)
theorem n34_28 : g34 call k [1,1,0,1,0,0,1,1,0,0,1,1,0,0] a H K = o34 0 call [1,1,0,1,0,0,1,1,0,0,1,1,0,0] 0 a H (K .normal) := at_region (by kernel_rfl)
theorem n34_29 : g34 call k [1,1,0,1,0,0,1,1,0,0,1,1,0,1] a H K = K .ret a H := at_ret (by kernel_rfl)
theorem n34_30 : g34 call k [1,1,0,1,0,0,1,1,0,0,1,1,1] a H K = K .normal a H := at_skip (by kernel_rfl)
theorem n34_31 : g34 call k [1,1,0,1,0,0,1,1,1] a H K = o34 0 call [1,1,0,1,0,0,1,1,1] 0 a H (K .normal) := at_region (by kernel_rfl)
theorem n34_32 : g34 call k [1,1,0,1,0,0,1,0,1] a H K = K (.exit 0) a H := at_exit (by kernel_rfl)
theorem n34_33 : g34 call k [1,1,1] a H K = g34 call k [1,1,1,0] a H (hSeq (g34 call k [1,1,1,1]) K) := at_seq (by kernel_rfl)
theorem n34_34 : g34 call k [1,1,1,0] a H K = g34 call k [1,1,1,0,0] a H (hSeq (g34 call k [1,1,1,0,1]) K) := at_seq (by kernel_rfl)
theorem n34_35 : g34 call k [1,1,1,0,0] a H K = o34 0 call [1,1,1,0,0] 0 a H (K .normal) := at_region (by kernel_rfl)
theorem n34_36 : g34 call k [1,1,1,0,1] a H K = g34 call k [1,1,1,0,1,0] a H (hBlock 2 K) := at_block (by kernel_rfl)
theorem n34_37 : g34 call k [1,1,1,0,1,0] a H K = gLoop (g34 call k [1,1,1,0,1,0,0]) K k a H := at_loop (by kernel_rfl)
theorem n34_38 : g34 call k [1,1,1,0,1,0,0] a H K = g34 call k [1,1,1,0,1,0,0,0] a H (hSeq (g34 call k [1,1,1,0,1,0,0,1]) K) := at_seq (by kernel_rfl)
theorem n34_39 : g34 call k [1,1,1,0,1,0,0,0] a H K = o34 0 call [1,1,1,0,1,0,0,0] 0 a H (K .normal) := at_region (by kernel_rfl)
theorem n34_40 : g34 call k [1,1,1,0,1,0,0,1] a H K = g34 call k [1,1,1,0,1,0,0,1,0] a H (hSeq (g34 call k [1,1,1,0,1,0,0,1,1]) K) := at_seq (by kernel_rfl)
theorem n34_41 : g34 call k [1,1,1,0,1,0,0,1,0] a H K = onBool (asB (GA.eval a (.tmp 34))) (g34 call k [1,1,1,0,1,0,0,1,0,0] a H K) (g34 call k [1,1,1,0,1,0,0,1,0,1] a H K) := at_cond (by kernel_rfl)
theorem n34_42 : g34 call k [1,1,1,0,1,0,0,1,0,0] a H K = K .normal a H := at_skip (by kernel_rfl)
theorem n34_43 : g34 call k [1,1,1,0,1,0,0,1,1] a H K = g34 call k [1,1,1,0,1,0,0,1,1,0] a H (hSeq (g34 call k [1,1,1,0,1,0,0,1,1,1]) K) := at_seq (by kernel_rfl)
theorem n34_44 : g34 call k [1,1,1,0,1,0,0,1,1,0] a H K = g34 call k [1,1,1,0,1,0,0,1,1,0,0] a H (hBlock 3 K) := at_block (by kernel_rfl)
theorem n34_45 : g34 call k [1,1,1,0,1,0,0,1,1,0,0] a H K = g34 call k [1,1,1,0,1,0,0,1,1,0,0,0] a H (hSeq (g34 call k [1,1,1,0,1,0,0,1,1,0,0,1]) K) := at_seq (by kernel_rfl)
theorem n34_46 : g34 call k [1,1,1,0,1,0,0,1,1,0,0,0] a H K = o34 0 call [1,1,1,0,1,0,0,1,1,0,0,0] 0 a H (K .normal) := at_region (by kernel_rfl)
theorem n34_47 : g34 call k [1,1,1,0,1,0,0,1,1,0,0,1] a H K = g34 call k [1,1,1,0,1,0,0,1,1,0,0,1,0] a H (hSeq (g34 call k [1,1,1,0,1,0,0,1,1,0,0,1,1]) K) := at_seq (by kernel_rfl)
theorem n34_48 : g34 call k [1,1,1,0,1,0,0,1,0,1] a H K = K (.exit 2) a H := at_exit (by kernel_rfl)
theorem n34_49 : g34 call k [1,1,1,0,1,0,0,1,1,0,0,1,0] a H K = o34 1 call [1,1,1,0,1,0,0,1,1,0,0,1,0] 0 a H (K .normal) := at_region (by kernel_rfl)
theorem n34_50 : g34 call k [1,1,1,1] a H K = g34 call k [1,1,1,1,0] a H (hSeq (g34 call k [1,1,1,1,1]) K) := at_seq (by kernel_rfl)
theorem n34_51 : g34 call k [1,1,1,1,0] a H K = g34 call k [1,1,1,1,0,0] a H (hSeq (g34 call k [1,1,1,1,0,1]) K) := at_seq (by kernel_rfl)
theorem n34_52 : g34 call k [1,1,1,1,0,0] a H K = o34 0 call [1,1,1,1,0,0] 0 a H (K .normal) := at_region (by kernel_rfl)
theorem n34_53 : g34 call k [1,1,1,1,0,1] a H K = g34 call k [1,1,1,1,0,1,0] a H (hBlock 4 K) := at_block (by kernel_rfl)
theorem n34_54 : g34 call k [1,1,1,1,0,1,0] a H K = gLoop (g34 call k [1,1,1,1,0,1,0,0]) K k a H := at_loop (by kernel_rfl)
theorem n34_55 : g34 call k [1,1,1,0,1,0,0,1,1,0,0,1,1] a H K = onBool (asB (GA.eval a (.tmp 55))) (g34 call k [1,1,1,0,1,0,0,1,1,0,0,1,1,0] a H K) (g34 call k [1,1,1,0,1,0,0,1,1,0,0,1,1,1] a H K) := at_cond (by kernel_rfl)
theorem n34_56 : g34 call k [1,1,1,0,1,0,0,1,1,0,0,1,1,0] a H K = g34 call k [1,1,1,0,1,0,0,1,1,0,0,1,1,0,0] a H (hSeq (g34 call k [1,1,1,0,1,0,0,1,1,0,0,1,1,0,1]) K) := at_seq (by kernel_rfl)
theorem n34_57 : g34 call k [1,1,1,0,1,0,0,1,1,0,0,1,1,0,0] a H K = o34 0 call [1,1,1,0,1,0,0,1,1,0,0,1,1,0,0] 0 a H (K .normal) := at_region (by kernel_rfl)
theorem n34_58 : g34 call k [1,1,1,0,1,0,0,1,1,0,0,1,1,0,1] a H K = K .ret a H := at_ret (by kernel_rfl)
theorem n34_59 : g34 call k [1,1,1,1,0,1,0,0] a H K = g34 call k [1,1,1,1,0,1,0,0,0] a H (hSeq (g34 call k [1,1,1,1,0,1,0,0,1]) K) := at_seq (by kernel_rfl)
theorem n34_60 : g34 call k [1,1,1,1,0,1,0,0,0] a H K = o34 0 call [1,1,1,1,0,1,0,0,0] 0 a H (K .normal) := at_region (by kernel_rfl)
theorem n34_61 : g34 call k [1,1,1,1,0,1,0,0,1] a H K = g34 call k [1,1,1,1,0,1,0,0,1,0] a H (hSeq (g34 call k [1,1,1,1,0,1,0,0,1,1]) K) := at_seq (by kernel_rfl)
theorem n34_62 : g34 call k [1,1,1,1,0,1,0,0,1,0] a H K = onBool (asB (GA.eval a (.tmp 61))) (g34 call k [1,1,1,1,0,1,0,0,1,0,0] a H K) (g34 call k [1,1,1,1,0,1,0,0,1,0,1] a H K) := at_cond (by kernel_rfl)
theorem n34_63 : g34 call k [1,1,1,1,0,1,0,0,1,0,0] a H K = K .normal a H := at_skip (by kernel_rfl)
theorem n34_64 : g34 call k [1,1,1,1,0,1,0,0,1,1] a H K = g34 call k [1,1,1,1,0,1,0,0,1,1,0] a H (hBlock 5 K) := at_block (by kernel_rfl)
theorem n34_65 : g34 call k [1,1,1,1,0,1,0,0,1,1,0] a H K = g34 call k [1,1,1,1,0,1,0,0,1,1,0,0] a H (hSeq (g34 call k [1,1,1,1,0,1,0,0,1,1,0,1]) K) := at_seq (by kernel_rfl)
theorem n34_66 : g34 call k [1,1,1,1,0,1,0,0,1,1,0,0] a H K = o34 0 call [1,1,1,1,0,1,0,0,1,1,0,0] 0 a H (K .normal) := at_region (by kernel_rfl)
theorem n34_67 : g34 call k [1,1,1,1,0,1,0,0,1,1,0,1] a H K = g34 call k [1,1,1,1,0,1,0,0,1,1,0,1,0] a H (hSeq (g34 call k [1,1,1,1,0,1,0,0,1,1,0,1,1]) K) := at_seq (by kernel_rfl)
theorem n34_68 : g34 call k [1,1,1,1,0,1,0,0,1,1,0,1,0] a H K = o34 0 call [1,1,1,1,0,1,0,0,1,1,0,1,0] 0 a H (K .normal) := at_region (by kernel_rfl)
theorem n34_69 : g34 call k [1,1,1,1,0,1,0,0,1,1,0,1,1] a H K = onBool (asB (GA.eval a (.tmp 65))) (g34 call k [1,1,1,1,0,1,0,0,1,1,0,1,1,0] a H K) (g34 call k [1,1,1,1,0,1,0,0,1,1,0,1,1,1] a H K) := at_cond (by kernel_rfl)
theorem n34_70 : g34 call k [1,1,1,1,0,1,0,0,1,1,0,1,1,0] a H K = g34 call k [1,1,1,1,0,1,0,0,1,1,0,1,1,0,0] a H (hSeq (g34 call k [1,1,1,1,0,1,0,0,1,1,0,1,1,0,1]) K) := at_seq (by kernel_rfl)
theorem n34_71 : g34 call k [1,1,1,1,0,1,0,0,1,1,0,1,1,0,0] a H K = o34 0 call [1,1,1,1,0,1,0,0,1,1,0,1,1,0,0] 0 a H (K .normal) := at_region (by kernel_rfl)
theorem n34_72 : g34 call k [1,1,1,1,0,1,0,0,1,1,0,1,1,0,1] a H K = K .ret a H := at_ret (by kernel_rfl)
theorem n34_73 : g34 call k [1,1,1,1,0,1,0,0,1,1,0,1,1,1] a H K = K .normal a H := at_skip (by kernel_rfl)
theorem n34_74 : g34 call k [1,1,1,1,0,1,0,0,1,0,1] a H K = K (.exit 4) a H := at_exit (by kernel_rfl)
theorem n34_75 : g34 call k [1,1,1,1,1] a H K = g34 call k [1,1,1,1,1,0] a H (hSeq (g34 call k [1,1,1,1,1,1]) K) := at_seq (by kernel_rfl)
theorem n34_76 : g34 call k [1,1,1,1,1,0] a H K = o34 0 call [1,1,1,1,1,0] 0 a H (K .normal) := at_region (by kernel_rfl)
theorem n34_77 : g34 call k [1,1,1,1,1,1] a H K = K .ret a H := at_ret (by kernel_rfl)
theorem n34_78 : g34 call k [1,1,1,0,1,0,0,1,1,0,0,1,1,1] a H K = K .normal a H := at_skip (by kernel_rfl)
theorem n34_79 : g34 call k [1,1,1,0,1,0,0,1,1,1] a H K = o34 0 call [1,1,1,0,1,0,0,1,1,1] 0 a H (K .normal) := at_region (by kernel_rfl)
theorem s34_0 : o34 0 call [0] 0 (FG 66 (fun _ => undef) [(0, p0)]) H K' =
  K' (FG 66 (fun _ => undef) [(2, (.int .i64 0)), (1, (.pointer (some ⟨H.n, 0, none⟩))), (0, p0)]) (GH.push H (.row (Value.cells p0).toList 88 false)) := by kernel_rfl
theorem s34_1 : t34 0 call [1,0,0] 0 5 (FG 66 (fun _ => undef) [(2, (.int .i64 0)), (1, (.pointer (some ⟨H.n, 0, none⟩))), (0, p0)]) (GH.push H (.row (Value.cells p0).toList 88 false)) K' =
  onV (gLoad Try.prog 85 (.pointer (some ⟨H.n, 0, none⟩)) (GH.push H (.row (Value.cells p0).toList 88 false))) fun v1 =>
  onV (oLen Try.prog 85 v1) fun v2 =>
  onV ((oBin Try.prog .gtr 3 v2 (.int .i64 512)).filter closed) fun v3 =>
  onGrd true v3 (K' (FG 66 (fun _ => undef) [(13, v3), (12, v3), (11, v2), (10, v1), (9, (.pointer (some ⟨H.n, 0, none⟩))), (2, (.int .i64 0)), (1, (.pointer (some ⟨H.n, 0, none⟩))), (0, p0)]) (GH.push H (.row (Value.cells p0).toList 88 false))) := by kernel_rfl
theorem s34_2 : o34 0 call [1,0,0] 5 (FG 66 d [(13, (.bool true))]) H K' =
  K' (FG 66 d [(18, (.bool true)), (17, undef), (16, undef), (15, undef), (14, undef), (13, (.bool true))]) H := by kernel_rfl
theorem s34_3 : o34 0 call [1,0,1,0,0] 0 (FG 66 d [(18, (.bool true)), (17, undef), (16, undef), (15, undef), (14, undef), (13, (.bool true))]) H K' =
  K' (FG 66 d [(2, (.int .i64 3)), (18, (.bool true)), (17, undef), (16, undef), (15, undef), (14, undef), (13, (.bool true))]) H := by kernel_rfl
theorem s34_4 : o34 0 call [1,0,0] 5 (FG 66 d [(13, (.bool false))]) H K' =
  onV (oFieldAddr Try.prog 88 (d 1) 1) fun v1 =>
  onV (gLoad Try.prog 86 v1 H) fun v2 =>
  onV (oLen Try.prog 86 v2) fun v3 =>
  onV ((oBin Try.prog .gtr 3 v3 (.int .i64 512)).filter closed) fun v4 =>
  K' (FG 66 d [(18, v4), (17, v4), (16, v3), (15, v2), (14, v1), (13, (.bool false))]) H := by kernel_rfl
theorem s34_5 : o34 0 call [1,0,1,0,0] 0 (FG 66 d [(18, v4), (17, v4), (16, v3), (15, v2), (14, v1), (13, (.bool false))]) H K' =
  K' (FG 66 d [(2, (.int .i64 3)), (18, v4), (17, v4), (16, v3), (15, v2), (14, v1), (13, (.bool false))]) H := by kernel_rfl
theorem s34_6 : o34 0 call [1,1,0,0] 0 (FG 66 d [(18, v4), (17, v4), (16, v3), (15, v2), (14, v1), (13, (.bool false))]) H K' =
  onV (oFieldAddr Try.prog 88 (d 1) 0) fun v5 =>
  onV (gLoad Try.prog 85 v5 H) fun v6 =>
  onV (oLen Try.prog 85 v6) fun v7 =>
  K' (FG 66 d [(22, (.int .i64 0)), (21, v7), (20, v6), (19, v5), (18, v4), (17, v4), (16, v3), (15, v2), (14, v1), (13, (.bool false))]) H := by kernel_rfl
theorem s34_7 : o34 0 call [1,1,0,1,0,0,0] 0 (FF 66 d) H K' =
  onV ((oBin Try.prog .lss 3 (d 22) (d 21)).filter closed) fun v1 =>
  K' (FG 66 d [(23, v1)]) H := by kernel_rfl
theorem s34_8 : o34 0 call [1,1,0,1,0,0,1,1,0,0,0] 0 (FG 66 d [(23, v1)]) H K' =
  onV (oIndexAddr Try.prog 85 (d 20) (d 22)) fun v2 =>
  onV (gLoad Try.prog 93 v2 H) fun v3 =>
  onH (gStore Try.prog 93 (.pointer (some ⟨H.n, 0, none⟩)) v3 (GH.push H (.row [(.int .i64 0), (.int .i64 0)] 93 false))) fun H4 =>
  K' (FG 66 d [(4, (.pointer (some ⟨H.n, 0, none⟩))), (25, v3), (24, v2), (23, v1)]) H4 := by kernel_rfl
theorem s34_9 : o34 0 call [1,1,0,1,0,0,1,1,0,0,1,0] 0 (FG 66 d [(4, (.pointer (some ⟨H.n, 0, none⟩))), (25, v3), (24, v2), (23, v1)]) H4 K' =
  onV (gLoad Try.prog 93 (.pointer (some ⟨H.n, 0, none⟩)) H4) fun v5 =>
  onCall 0 call (.func (.func 94) #[] #[]) [v5] H4 fun v6 H7 =>
  onV ((oUn Try.prog .not v6).filter closed) fun v8 =>
  K' (FG 66 d [(28, v8), (27, v6), (26, v5), (4, (.pointer (some ⟨H.n, 0, none⟩))), (25, v3), (24, v2), (23, v1)]) H7 := by kernel_rfl
theorem s34_10 : o34 0 call [1,1,0,1,0,0,1,1,0,0,1,1,0,0] 0 (FG 66 d [(28, v8), (27, v6), (26, v5), (4, (.pointer (some ⟨H.n, 0, none⟩))), (25, v3), (24, v2), (23, v1)]) H7 K' =
  K' (FG 66 d [(2, (.int .i64 1)), (28, v8), (27, v6), (26, v5), (4, (.pointer (some ⟨H.n, 0, none⟩))), (25, v3), (24, v2), (23, v1)]) H7 := by kernel_rfl
theorem s34_11 : o34 0 call [1,1,0,1,0,0,1,1,1] 0 (FG 66 d [(28, v8), (27, v6), (26, v5), (4, (.pointer (some ⟨H.n, 0, none⟩))), (25, v3), (24, v2), (23, v1)]) H7 K' =
  onV ((oBin Try.prog .add 3 (d 22) (.int .i64 1)).filter closed) fun v9 =>
  K' (FG 66 d [(22, v9), (29, v9), (28, v8), (27, v6), (26, v5), (4, (.pointer (some ⟨H.n, 0, none⟩))), (25, v3), (24, v2), (23, v1)]) H7 := by kernel_rfl
theorem s34_12 : o34 0 call [1,1,1,0,0] 0 (FF 66 d) H K' =
  onV (oFieldAddr Try.prog 88 (d 1) 1) fun v1 =>
  onV (gLoad Try.prog 86 v1 H) fun v2 =>
  onV (oLen Try.prog 86 v2) fun v3 =>
  K' (FG 66 d [(33, (.int .i64 0)), (32, v3), (31, v2), (30, v1)]) H := by kernel_rfl
theorem s34_13 : o34 0 call [1,1,1,0,1,0,0,0] 0 (FF 66 d) H K' =
  onV ((oBin Try.prog .lss 3 (d 33) (d 32)).filter closed) fun v1 =>
  K' (FG 66 d [(34, v1)]) H := by kernel_rfl
theorem s34_14 : o34 0 call [1,1,1,0,1,0,0,1,1,0,0,0] 0 (FG 66 d [(34, v1)]) H K' =
  onV (oIndexAddr Try.prog 86 (d 31) (d 33)) fun v2 =>
  onV (gLoad Try.prog 91 v2 H) fun v3 =>
  onH (gStore Try.prog 91 (.pointer (some ⟨H.n, 0, none⟩)) v3 (GH.push H (.row [(.int .i64 0), (.int .i64 0), (.int .i64 0)] 91 false))) fun H4 =>
  K' (FG 66 d [(5, (d 33)), (6, (.pointer (some ⟨H.n, 0, none⟩))), (37, v3), (36, v2), (35, (d 33)), (34, v1)]) H4 := by kernel_rfl
theorem s34_15 : t34 1 call [1,1,1,0,1,0,0,1,1,0,0,1,0] 0 4 (FF 66 d) H K' =
  onV (gLoad Try.prog 91 (d 6) H) fun v1 =>
  onCall 1 call (.func (.func 95) #[] #[]) [v1] H fun v2 H3 =>
  onV ((oUn Try.prog .not v2).filter closed) fun v4 =>
  onGrd true v4 (K' (FG 66 d [(41, v4), (40, v4), (39, v2), (38, v1)]) H3) := by kernel_rfl
theorem s34_16 : o34 0 call [1,1,1,1,0,0] 0 (FF 66 d) H K' =
  onV (gLoad Try.prog 88 (d 1) H) fun v1 =>
  onCall 0 call (.func (.func 97) #[] #[]) [v1] H fun v2 H3 =>
  onVH (gRange Try.prog 186 v2 H3) fun v4 H5 =>
  K' (FG 66 d [(59, v4), (58, v2), (57, v1)]) H5 := by kernel_rfl
theorem s34_17 : o34 1 call [1,1,1,0,1,0,0,1,1,0,0,1,0] 4 (FG 66 d [(41, (.bool true))]) H K' =
  K' (FG 66 d [(55, (.bool true)), (54, undef), (53, undef), (52, undef), (51, undef), (50, undef), (49, undef), (48, undef), (47, undef), (46, undef), (45, undef), (44, undef), (43, undef), (42, undef), (41, (.bool true))]) H := by kernel_rfl
theorem s34_18 : o34 0 call [1,1,1,0,1,0,0,1,1,0,0,1,1,0,0] 0 (FG 66 d [(55, (.bool true)), (54, undef), (53, undef), (52, undef), (51, undef), (50, undef), (49, undef), (48, undef), (47, undef), (46, undef), (45, undef), (44, undef), (43, undef), (42, undef), (41, (.bool true))]) H K' =
  K' (FG 66 d [(2, (.int .i64 1)), (55, (.bool true)), (54, undef), (53, undef), (52, undef), (51, undef), (50, undef), (49, undef), (48, undef), (47, undef), (46, undef), (45, undef), (44, undef), (43, undef), (42, undef), (41, (.bool true))]) H := by kernel_rfl
theorem s34_19 : t34 1 call [1,1,1,0,1,0,0,1,1,0,0,1,0] 4 3 (FG 66 d [(41, (.bool false))]) H K' =
  onV ((oBin Try.prog .gtr 3 (d 5) (.int .i64 0)).filter closed) fun v1 =>
  onGrd true v1 (K' (FG 66 d [(44, v1), (43, v1), (42, (d 5)), (41, (.bool false))]) H) := by kernel_rfl
theorem s34_20 : o34 0 call [1,1,1,1,0,1,0,0,0] 0 (FF 66 d) H K' =
  onNext 0 (gNext (d 59) false H) fun v1 H2 =>
  onV (oExtract v1 0) fun v3 =>
  K' (FG 66 d [(61, v3), (60, v1)]) H2 := by kernel_rfl
theorem s34_21 : o34 0 call [1,1,1,1,0,1,0,0,1,1,0,0] 0 (FG 66 d [(61, v3), (60, v1)]) H2 K' =
  onV (gEntry (d 59) H2) fun v4 =>
  onV (oExtract v4 1) fun v5 =>
  K' (FG 66 d [(8, v5), (63, v5), (62, v4), (61, v3), (60, v1)]) H2 := by kernel_rfl
theorem s34_22 : o34 0 call [1,1,1,1,0,1,0,0,1,1,0,1,0] 0 (FG 66 d [(8, v5), (63, v5), (62, v4), (61, v3), (60, v1)]) H2 K' =
  onV ((oBin Try.prog .lss 3 v5 (.int .i64 0)).filter closed) fun v6 =>
  K' (FG 66 d [(65, v6), (64, v5), (8, v5), (63, v5), (62, v4), (61, v3), (60, v1)]) H2 := by kernel_rfl
theorem s34_23 : o34 0 call [1,1,1,1,0,1,0,0,1,1,0,1,1,0,0] 0 (FG 66 d [(65, v6), (64, v5), (8, v5), (63, v5), (62, v4), (61, v3), (60, v1)]) H2 K' =
  K' (FG 66 d [(2, (.int .i64 18)), (65, v6), (64, v5), (8, v5), (63, v5), (62, v4), (61, v3), (60, v1)]) H2 := by kernel_rfl
theorem s34_24 : o34 0 call [1,1,1,1,1,0] 0 (FG 66 d [(61, v3), (60, v1)]) H2 K' =
  K' (FG 66 d [(2, (.int .i64 0)), (61, v3), (60, v1)]) H2 := by kernel_rfl
theorem s34_25 : o34 1 call [1,1,1,0,1,0,0,1,1,0,0,1,0] 7 (FG 66 d [(44, (.bool true)), (41, (.bool false))]) H K' =
  onV (oFieldAddr Try.prog 88 (d 1) 1) fun v1 =>
  onV (gLoad Try.prog 86 v1 H) fun v2 =>
  onV ((oBin Try.prog .sub 3 (d 5) (.int .i64 1)).filter closed) fun v3 =>
  onV (oIndexAddr Try.prog 86 v2 v3) fun v4 =>
  onV (gLoad Try.prog 91 v4 H) fun v5 =>
  onV (gLoad Try.prog 91 (d 6) H) fun v6 =>
  onCall 1 call (.func (.func 96) #[] #[]) [v5, v6] H fun v7 H8 =>
  onV ((oBin Try.prog .geq 3 v7 (.int .i64 0)).filter closed) fun v9 =>
  K' (FG 66 d [(55, v9), (54, v9), (53, v9), (52, v7), (51, v6), (50, v5), (49, v4), (48, v3), (47, (d 5)), (46, v2), (45, v1), (44, (.bool true)), (41, (.bool false))]) H8 := by kernel_rfl
theorem s34_26 : o34 0 call [1,1,1,0,1,0,0,1,1,0,0,1,1,0,0] 0 (FG 66 d [(55, v9), (54, v9), (53, v9), (52, v7), (51, v6), (50, v5), (49, v4), (48, v3), (47, (d 5)), (46, v2), (45, v1), (44, (.bool true)), (41, (.bool false))]) H8 K' =
  K' (FG 66 d [(2, (.int .i64 1)), (55, v9), (54, v9), (53, v9), (52, v7), (51, v6), (50, v5), (49, v4), (48, v3), (47, (d 5)), (46, v2), (45, v1), (44, (.bool true)), (41, (.bool false))]) H8 := by kernel_rfl
theorem s34_27 : o34 0 call [1,1,1,0,1,0,0,1,1,1] 0 (FG 66 d [(55, v9), (54, v9), (53, v9), (52, v7), (51, v6), (50, v5), (49, v4), (48, v3), (47, (d 5)), (46, v2), (45, v1), (44, (.bool true)), (41, (.bool false))]) H8 K' =
  onV ((oBin Try.prog .add 3 (d 33) (.int .i64 1)).filter closed) fun v10 =>
  K' (FG 66 d [(33, v10), (56, v10), (55, v9), (54, v9), (53, v9), (52, v7), (51, v6), (50, v5), (49, v4), (48, v3), (47, (d 5)), (46, v2), (45, v1), (44, (.bool true)), (41, (.bool false))]) H8 := by kernel_rfl
theorem s34_28 : o34 1 call [1,1,1,0,1,0,0,1,1,0,0,1,0] 7 (FG 66 d [(44, (.bool false)), (41, (.bool false))]) H K' =
  K' (FG 66 d [(55, (.bool false)), (54, (.bool false)), (53, undef), (52, undef), (51, undef), (50, undef), (49, undef), (48, undef), (47, undef), (46, undef), (45, undef), (44, (.bool false)), (41, (.bool false))]) H := by kernel_rfl
theorem s34_29 : o34 0 call [1,1,1,0,1,0,0,1,1,1] 0 (FG 66 d [(55, (.bool false)), (54, (.bool false)), (53, undef), (52, undef), (51, undef), (50, undef), (49, undef), (48, undef), (47, undef), (46, undef), (45, undef), (44, (.bool false)), (41, (.bool false))]) H K' =
  onV ((oBin Try.prog .add 3 (d 33) (.int .i64 1)).filter closed) fun v1 =>
  K' (FG 66 d [(33, v1), (56, v1), (55, (.bool false)), (54, (.bool false)), (53, undef), (52, undef), (51, undef), (50, undef), (49, undef), (48, undef), (47, undef), (46, undef), (45, undef), (44, (.bool false)), (41, (.bool false))]) H := by kernel_rfl
def f34_l16_P (ag : AG) (sg : Sg1) : Prop := ∀ (d : Nat → Value) (H : GH), ag (FF 66 d) H = sg (d 59) H
theorem f34_l16_at {ag : AG} {sg : Sg1} (h : f34_l16_P ag sg) : ag (FF 66 d) H = sg (d 59) H := h d H
def f34_l10_P (ag : AG) (sg : Sg4) : Prop := ∀ (d : Nat → Value) (H : GH), ag (FF 66 d) H = sg (d 1) (d 31) (d 32) (d 33) H
theorem f34_l10_at {ag : AG} {sg : Sg4} (h : f34_l10_P ag sg) : ag (FF 66 d) H = sg (d 1) (d 31) (d 32) (d 33) H := h d H
def f34_l4_P (ag : AG) (sg : Sg4) : Prop := ∀ (d : Nat → Value) (H : GH), ag (FF 66 d) H = sg (d 1) (d 20) (d 21) (d 22) H
theorem f34_l4_at {ag : AG} {sg : Sg4} (h : f34_l4_P ag sg) : ag (FF 66 d) H = sg (d 1) (d 20) (d 21) (d 22) H := h d H
noncomputable def f34_g12_7 (call : Handle) (k : Nat) (sg_l10 : Sg4) (x44 : Value) (x1 x5 x6 x31 x32 x33 : Value) (H : GH) : M (Value × GH) :=
 onBool (asB x44)
  (onV (oFieldAddr Try.prog 88 x1 1) fun v1 =>
  onV (gLoad Try.prog 86 v1 H) fun v2 =>
  onV ((oBin Try.prog .sub 3 x5 (.int .i64 1)).filter closed) fun v3 =>
  onV (oIndexAddr Try.prog 86 v2 v3) fun v4 =>
  onV (gLoad Try.prog 91 v4 H) fun v5 =>
  onV (gLoad Try.prog 91 x6 H) fun v6 =>
  onCall 1 call (.func (.func 96) #[] #[]) [v5, v6] H fun v7 H8 =>
  onV ((oBin Try.prog .geq 3 v7 (.int .i64 0)).filter closed) fun v9 =>
  onBool (asB v9)
  (some [((.int .i64 1), H8)])
  (onV ((oBin Try.prog .add 3 x33 (.int .i64 1)).filter closed) fun v10 =>
  (sg_l10 x1 x31 x32 v10 H8)))
  (onV ((oBin Try.prog .add 3 x33 (.int .i64 1)).filter closed) fun v1 =>
  (sg_l10 x1 x31 x32 v1 H))
theorem f34_g12_7_true (call : Handle) (k : Nat) (ag_l10 : AG) (sg_l10 : Sg4) (h_l10 : f34_l10_P ag_l10 sg_l10) : o34 1 call [1,1,1,0,1,0,0,1,1,0,0,1,0] 7 (FG 66 d [(44, (.bool true)), (41, (.bool false))]) H ((hSeq (g34 call k [1,1,1,0,1,0,0,1,1,0,0,1,1]) (hBlock 3 (hSeq (g34 call k [1,1,1,0,1,0,0,1,1,1]) (hLoop ag_l10 (hBlock 2 (hSeq (g34 call k [1,1,1,1]) (hFin Try.prog Try.f34))))))) .normal) =
  onV (oFieldAddr Try.prog 88 (d 1) 1) fun v1 =>
  onV (gLoad Try.prog 86 v1 H) fun v2 =>
  onV ((oBin Try.prog .sub 3 (d 5) (.int .i64 1)).filter closed) fun v3 =>
  onV (oIndexAddr Try.prog 86 v2 v3) fun v4 =>
  onV (gLoad Try.prog 91 v4 H) fun v5 =>
  onV (gLoad Try.prog 91 (d 6) H) fun v6 =>
  onCall 1 call (.func (.func 96) #[] #[]) [v5, v6] H fun v7 H8 =>
  onV ((oBin Try.prog .geq 3 v7 (.int .i64 0)).filter closed) fun v9 =>
  onBool (asB v9)
  (some [((.int .i64 1), H8)])
  (onV ((oBin Try.prog .add 3 (d 33) (.int .i64 1)).filter closed) fun v10 =>
  (sg_l10 (d 1) (d 31) (d 32) v10 H8)) := by
  rw [s34_25]
  refine onV_c fun v1 => ?_
  refine onV_c fun v2 => ?_
  refine onV_c fun v3 => ?_
  refine onV_c fun v4 => ?_
  refine onV_c fun v5 => ?_
  refine onV_c fun v6 => ?_
  refine onCall_c fun v7 H8 => ?_
  refine onV_c fun v9 => ?_
  rw [hSeq_n]
  rw [n34_55]
  refine onBool_cc (by kernel_rfl) ?_ ?_
  · rw [n34_56]
    rw [n34_57]
    rw [s34_26]
    rw [hSeq_n]
    rw [n34_58]
    rw [hBlock_r, hSeq_r, hLoop_r, hBlock_r, hSeq_r]
    kernel_rfl
  · rw [n34_78]
    rw [hBlock_n]
    rw [hSeq_n]
    rw [n34_79]
    rw [s34_27]
    refine onV_c fun v10 => ?_
    rw [hLoop_n]
    generalize e : (FG 66 d [(33, v10), (56, v10), (55, v9), (54, v9), (53, v9), (52, v7), (51, v6), (50, v5), (49, v4), (48, v3), (47, (d 5)), (46, v2), (45, v1), (44, (.bool true)), (41, (.bool false))]) = a
    rw [show a = (FF 66 (gf a)) from (FF_gf (by subst e; exact FG_len)).symm]
    exact (f34_l10_at (d := gf a) h_l10).trans (by subst e; kernel_rfl)
theorem f34_g12_7_false (call : Handle) (k : Nat) (ag_l10 : AG) (sg_l10 : Sg4) (h_l10 : f34_l10_P ag_l10 sg_l10) : o34 1 call [1,1,1,0,1,0,0,1,1,0,0,1,0] 7 (FG 66 d [(44, (.bool false)), (41, (.bool false))]) H ((hSeq (g34 call k [1,1,1,0,1,0,0,1,1,0,0,1,1]) (hBlock 3 (hSeq (g34 call k [1,1,1,0,1,0,0,1,1,1]) (hLoop ag_l10 (hBlock 2 (hSeq (g34 call k [1,1,1,1]) (hFin Try.prog Try.f34))))))) .normal) =
  onV ((oBin Try.prog .add 3 (d 33) (.int .i64 1)).filter closed) fun v1 =>
  (sg_l10 (d 1) (d 31) (d 32) v1 H) := by
  rw [s34_28]
  rw [hSeq_n]
  rw [n34_55]
  refine (onBool_ff (by kernel_rfl)).trans ?_
  rw [n34_78]
  rw [hBlock_n]
  rw [hSeq_n]
  rw [n34_79]
  rw [s34_29]
  refine onV_c fun v1 => ?_
  rw [hLoop_n]
  generalize e : (FG 66 d [(33, v1), (56, v1), (55, (.bool false)), (54, (.bool false)), (53, undef), (52, undef), (51, undef), (50, undef), (49, undef), (48, undef), (47, undef), (46, undef), (45, undef), (44, (.bool false)), (41, (.bool false))]) = a
  rw [show a = (FF 66 (gf a)) from (FF_gf (by subst e; exact FG_len)).symm]
  exact (f34_l10_at (d := gf a) h_l10).trans (by subst e; kernel_rfl)
theorem f34_g12_7_eq (call : Handle) (k : Nat) (ag_l10 : AG) (sg_l10 : Sg4) (h_l10 : f34_l10_P ag_l10 sg_l10) : onGrd true xg (o34 1 call [1,1,1,0,1,0,0,1,1,0,0,1,0] 7 (FG 66 d [(44, xg), (41, (.bool false))]) H ((hSeq (g34 call k [1,1,1,0,1,0,0,1,1,0,0,1,1]) (hBlock 3 (hSeq (g34 call k [1,1,1,0,1,0,0,1,1,1]) (hLoop ag_l10 (hBlock 2 (hSeq (g34 call k [1,1,1,1]) (hFin Try.prog Try.f34))))))) .normal)) =
  f34_g12_7 call k sg_l10 xg (d 1) (d 5) (d 6) (d 31) (d 32) (d 33) H := by
  cases xg with
  | bool b => cases b with
    | true => exact onGrd_b.trans (f34_g12_7_true call k ag_l10 sg_l10 h_l10)
    | false => exact onGrd_b.trans (f34_g12_7_false call k ag_l10 sg_l10 h_l10)
  | _ => kernel_rfl
noncomputable def f34_g12_4 (call : Handle) (k : Nat) (sg_l10 : Sg4) (x41 : Value) (x1 x5 x6 x31 x32 x33 : Value) (H : GH) : M (Value × GH) :=
 onBool (asB x41)
  (some [((.int .i64 1), H)])
  (onV ((oBin Try.prog .gtr 3 x5 (.int .i64 0)).filter closed) fun v1 =>
  (f34_g12_7 call k (sg_l10) v1 x1 x5 x6 x31 x32 x33 H))
theorem f34_g12_4_true (call : Handle) (k : Nat) (ag_l10 : AG) (sg_l10 : Sg4) (h_l10 : f34_l10_P ag_l10 sg_l10) : o34 1 call [1,1,1,0,1,0,0,1,1,0,0,1,0] 4 (FG 66 d [(41, (.bool true))]) H ((hSeq (g34 call k [1,1,1,0,1,0,0,1,1,0,0,1,1]) (hBlock 3 (hSeq (g34 call k [1,1,1,0,1,0,0,1,1,1]) (hLoop ag_l10 (hBlock 2 (hSeq (g34 call k [1,1,1,1]) (hFin Try.prog Try.f34))))))) .normal) =
  some [((.int .i64 1), H)] := by
  rw [s34_17]
  rw [hSeq_n]
  rw [n34_55]
  refine (onBool_tt (by kernel_rfl)).trans ?_
  rw [n34_56]
  rw [n34_57]
  rw [s34_18]
  rw [hSeq_n]
  rw [n34_58]
  rw [hBlock_r, hSeq_r, hLoop_r, hBlock_r, hSeq_r]
  kernel_rfl
theorem f34_g12_4_false (call : Handle) (k : Nat) (ag_l10 : AG) (sg_l10 : Sg4) (h_l10 : f34_l10_P ag_l10 sg_l10) : o34 1 call [1,1,1,0,1,0,0,1,1,0,0,1,0] 4 (FG 66 d [(41, (.bool false))]) H ((hSeq (g34 call k [1,1,1,0,1,0,0,1,1,0,0,1,1]) (hBlock 3 (hSeq (g34 call k [1,1,1,0,1,0,0,1,1,1]) (hLoop ag_l10 (hBlock 2 (hSeq (g34 call k [1,1,1,1]) (hFin Try.prog Try.f34))))))) .normal) =
  onV ((oBin Try.prog .gtr 3 (d 5) (.int .i64 0)).filter closed) fun v1 =>
  (f34_g12_7 call k (sg_l10) v1 (d 1) (d 5) (d 6) (d 31) (d 32) (d 33) H) := by
  rw [o34_s 4 3, s34_19]
  refine onV_c fun v1 => ?_
  generalize e : (FG 66 d [(44, v1), (43, v1), (42, (d 5)), (41, (.bool false))]) = a
  rw [show a = (FG 66 (gf a) [(44, v1), (41, (.bool false))]) from (FG_eq (by subst e; exact FG_len) (FS_cons (by subst e; kernel_rfl) (FS_cons (by subst e; kernel_rfl) (FS_nil)))).symm]
  exact (f34_g12_7_eq (d := gf a) call k ag_l10 sg_l10 h_l10).trans (by subst e; kernel_rfl)
theorem f34_g12_4_eq (call : Handle) (k : Nat) (ag_l10 : AG) (sg_l10 : Sg4) (h_l10 : f34_l10_P ag_l10 sg_l10) : onGrd true xg (o34 1 call [1,1,1,0,1,0,0,1,1,0,0,1,0] 4 (FG 66 d [(41, xg)]) H ((hSeq (g34 call k [1,1,1,0,1,0,0,1,1,0,0,1,1]) (hBlock 3 (hSeq (g34 call k [1,1,1,0,1,0,0,1,1,1]) (hLoop ag_l10 (hBlock 2 (hSeq (g34 call k [1,1,1,1]) (hFin Try.prog Try.f34))))))) .normal)) =
  f34_g12_4 call k sg_l10 xg (d 1) (d 5) (d 6) (d 31) (d 32) (d 33) H := by
  cases xg with
  | bool b => cases b with
    | true => exact onGrd_b.trans (f34_g12_4_true call k ag_l10 sg_l10 h_l10)
    | false => exact onGrd_b.trans (f34_g12_4_false call k ag_l10 sg_l10 h_l10)
  | _ => kernel_rfl
noncomputable def f34_r12 (call : Handle) (k : Nat) (sg_l10 : Sg4) (x1 x5 x6 x31 x32 x33 : Value) (H : GH) : M (Value × GH) :=
  onV (gLoad Try.prog 91 x6 H) fun v1 =>
  onCall 1 call (.func (.func 95) #[] #[]) [v1] H fun v2 H3 =>
  onV ((oUn Try.prog .not v2).filter closed) fun v4 =>
  (f34_g12_4 call k (sg_l10) v4 x1 x5 x6 x31 x32 x33 H3)
theorem f34_r12_eq (call : Handle) (k : Nat) (ag_l10 : AG) (sg_l10 : Sg4) (h_l10 : f34_l10_P ag_l10 sg_l10) : g34 call k [1,1,1,0,1,0,0,1,1,0,0,1,0] (FF 66 d) H (hSeq (g34 call k [1,1,1,0,1,0,0,1,1,0,0,1,1]) (hBlock 3 (hSeq (g34 call k [1,1,1,0,1,0,0,1,1,1]) (hLoop ag_l10 (hBlock 2 (hSeq (g34 call k [1,1,1,1]) (hFin Try.prog Try.f34))))))) = f34_r12 call k sg_l10 (d 1) (d 5) (d 6) (d 31) (d 32) (d 33) H := by
  unfold f34_r12
  rw [n34_49]
  rw [o34_s 0 4, s34_15]
  refine onV_c fun v1 => ?_
  refine onCall_c fun v2 H3 => ?_
  refine onV_c fun v4 => ?_
  generalize e : (FG 66 d [(41, v4), (40, v4), (39, v2), (38, v1)]) = a
  rw [show a = (FG 66 (gf a) [(41, v4)]) from (FG_eq (by subst e; exact FG_len) (FS_cons (by subst e; kernel_rfl) (FS_nil))).symm]
  exact (f34_g12_4_eq (d := gf a) call k ag_l10 sg_l10 h_l10).trans (by subst e; kernel_rfl)
noncomputable def f34_l16b (call : Handle) (k : Nat) (sg_l16 : Sg1) (x59 : Value) (H : GH) : M (Value × GH) :=
  onNext 0 (gNext x59 false H) fun v1 H2 =>
  onV (oExtract v1 0) fun v3 =>
  onBool (asB v3)
  (onV (gEntry x59 H2) fun v4 =>
  onV (oExtract v4 1) fun v5 =>
  onV ((oBin Try.prog .lss 3 v5 (.int .i64 0)).filter closed) fun v6 =>
  onBool (asB v6)
  (some [((.int .i64 18), H2)])
  ((sg_l16 x59 H2)))
  (some [((.int .i64 0), H2)])
theorem f34_l16b_eq (call : Handle) (k : Nat) (ag_l16 : AG) (sg_l16 : Sg1) (h_l16 : f34_l16_P ag_l16 sg_l16) : g34 call k [1,1,1,1,0,1,0,0] (FF 66 d) H (hLoop ag_l16 (hBlock 4 (hSeq (g34 call k [1,1,1,1,1]) (hFin Try.prog Try.f34)))) = f34_l16b call k sg_l16 (d 59) H := by
  unfold f34_l16b
  rw [n34_59]
  rw [n34_60]
  rw [s34_20]
  refine onNext_c fun v1 H2 => ?_
  refine onV_c fun v3 => ?_
  rw [hSeq_n]
  rw [n34_61]
  rw [n34_62]
  refine onBool_cc (by kernel_rfl) ?_ ?_
  · rw [n34_63]
    rw [hSeq_n]
    rw [n34_64]
    rw [n34_65]
    rw [n34_66]
    rw [s34_21]
    refine onV_c fun v4 => ?_
    refine onV_c fun v5 => ?_
    rw [hSeq_n]
    rw [n34_67]
    rw [n34_68]
    rw [s34_22]
    refine onV_c fun v6 => ?_
    rw [hSeq_n]
    rw [n34_69]
    refine onBool_cc (by kernel_rfl) ?_ ?_
    · rw [n34_70]
      rw [n34_71]
      rw [s34_23]
      rw [hSeq_n]
      rw [n34_72]
      rw [hBlock_r, hLoop_r, hBlock_r, hSeq_r]
      kernel_rfl
    · rw [n34_73]
      rw [hBlock_n]
      rw [hLoop_n]
      generalize e : (FG 66 d [(65, v6), (64, v5), (8, v5), (63, v5), (62, v4), (61, v3), (60, v1)]) = a
      rw [show a = (FF 66 (gf a)) from (FF_gf (by subst e; exact FG_len)).symm]
      exact (f34_l16_at (d := gf a) h_l16).trans (by subst e; kernel_rfl)
  · rw [n34_74]
    rw [hSeq_e, hLoop_e, hBlock_hit]
    rw [hSeq_n]
    rw [n34_75]
    rw [n34_76]
    rw [s34_24]
    rw [hSeq_n]
    rw [n34_77]
    kernel_rfl
noncomputable def f34_l16 (call : Handle) (k : Nat) : Nat → Value → GH → M (Value × GH)
  | 0, _, _ => none
  | r + 1, x59, H => f34_l16b call k (f34_l16 call k r) x59 H
theorem f34_l16_eq (call : Handle) (k : Nat) : ∀ (r : Nat), f34_l16_P (gLoop (g34 call k [1,1,1,1,0,1,0,0]) (hBlock 4 (hSeq (g34 call k [1,1,1,1,1]) (hFin Try.prog Try.f34))) r) (f34_l16 call k r) := by
  intro r
  induction r with
  | zero => unfold f34_l16_P; intros; rfl
  | succ r ih => unfold f34_l16_P; intros; exact f34_l16b_eq call k _ _ ih
noncomputable def f34_r15 (call : Handle) (k : Nat) (x1 : Value) (H : GH) : M (Value × GH) :=
  onV (gLoad Try.prog 88 x1 H) fun v1 =>
  onCall 0 call (.func (.func 97) #[] #[]) [v1] H fun v2 H3 =>
  onVH (gRange Try.prog 186 v2 H3) fun v4 H5 =>
  (f34_l16 call k k v4 H5)
theorem f34_r15_eq (call : Handle) (k : Nat) : g34 call k [1,1,1,1] (FF 66 d) H (hFin Try.prog Try.f34) = f34_r15 call k (d 1) H := by
  unfold f34_r15
  rw [n34_50]
  rw [n34_51]
  rw [n34_52]
  rw [s34_16]
  refine onV_c fun v1 => ?_
  refine onCall_c fun v2 H3 => ?_
  refine onVH_c fun v4 H5 => ?_
  rw [hSeq_n]
  rw [n34_53]
  rw [n34_54]
  generalize e : (FG 66 d [(59, v4), (58, v2), (57, v1)]) = a
  rw [show a = (FF 66 (gf a)) from (FF_gf (by subst e; exact FG_len)).symm]
  exact (f34_l16_at (d := gf a) (f34_l16_eq call k k)).trans (by subst e; kernel_rfl)
noncomputable def f34_l10b (call : Handle) (k : Nat) (sg_l10 : Sg4) (x1 x31 x32 x33 : Value) (H : GH) : M (Value × GH) :=
  onV ((oBin Try.prog .lss 3 x33 x32).filter closed) fun v1 =>
  onBool (asB v1)
  (onV (oIndexAddr Try.prog 86 x31 x33) fun v2 =>
  onV (gLoad Try.prog 91 v2 H) fun v3 =>
  onH (gStore Try.prog 91 (.pointer (some ⟨H.n, 0, none⟩)) v3 (GH.push H (.row [(.int .i64 0), (.int .i64 0), (.int .i64 0)] 91 false))) fun H4 =>
  (f34_r12 call k (sg_l10) x1 x33 (.pointer (some ⟨H.n, 0, none⟩)) x31 x32 x33 H4))
  ((f34_r15 call k x1 H))
theorem f34_l10b_eq (call : Handle) (k : Nat) (ag_l10 : AG) (sg_l10 : Sg4) (h_l10 : f34_l10_P ag_l10 sg_l10) : g34 call k [1,1,1,0,1,0,0] (FF 66 d) H (hLoop ag_l10 (hBlock 2 (hSeq (g34 call k [1,1,1,1]) (hFin Try.prog Try.f34)))) = f34_l10b call k sg_l10 (d 1) (d 31) (d 32) (d 33) H := by
  unfold f34_l10b
  rw [n34_38]
  rw [n34_39]
  rw [s34_13]
  refine onV_c fun v1 => ?_
  rw [hSeq_n]
  rw [n34_40]
  rw [n34_41]
  refine onBool_cc (by kernel_rfl) ?_ ?_
  · rw [n34_42]
    rw [hSeq_n]
    rw [n34_43]
    rw [n34_44]
    rw [n34_45]
    rw [n34_46]
    rw [s34_14]
    refine onV_c fun v2 => ?_
    refine onV_c fun v3 => ?_
    refine onH_c fun H4 => ?_
    rw [hSeq_n]
    rw [n34_47]
    generalize e : (FG 66 d [(5, (d 33)), (6, (.pointer (some ⟨H.n, 0, none⟩))), (37, v3), (36, v2), (35, (d 33)), (34, v1)]) = a
    rw [show a = (FF 66 (gf a)) from (FF_gf (by subst e; exact FG_len)).symm]
    exact (f34_r12_eq (d := gf a) call k ag_l10 sg_l10 h_l10).trans (by subst e; kernel_rfl)
  · rw [n34_48]
    rw [hSeq_e, hLoop_e, hBlock_hit]
    rw [hSeq_n]
    generalize e : (FG 66 d [(34, v1)]) = a
    rw [show a = (FF 66 (gf a)) from (FF_gf (by subst e; exact FG_len)).symm]
    exact (f34_r15_eq (d := gf a) call k).trans (by subst e; kernel_rfl)
noncomputable def f34_l10 (call : Handle) (k : Nat) : Nat → Value → Value → Value → Value → GH → M (Value × GH)
  | 0, _, _, _, _, _ => none
  | r + 1, x1, x31, x32, x33, H => f34_l10b call k (f34_l10 call k r) x1 x31 x32 x33 H
theorem f34_l10_eq (call : Handle) (k : Nat) : ∀ (r : Nat), f34_l10_P (gLoop (g34 call k [1,1,1,0,1,0,0]) (hBlock 2 (hSeq (g34 call k [1,1,1,1]) (hFin Try.prog Try.f34))) r) (f34_l10 call k r) := by
  intro r
  induction r with
  | zero => unfold f34_l10_P; intros; rfl
  | succ r ih => unfold f34_l10_P; intros; exact f34_l10b_eq call k _ _ ih
noncomputable def f34_r9 (call : Handle) (k : Nat) (x1 : Value) (H : GH) : M (Value × GH) :=
  onV (oFieldAddr Try.prog 88 x1 1) fun v1 =>
  onV (gLoad Try.prog 86 v1 H) fun v2 =>
  onV (oLen Try.prog 86 v2) fun v3 =>
  (f34_l10 call k k x1 v2 v3 (.int .i64 0) H)
theorem f34_r9_eq (call : Handle) (k : Nat) : g34 call k [1,1,1] (FF 66 d) H (hFin Try.prog Try.f34) = f34_r9 call k (d 1) H := by
  unfold f34_r9
  rw [n34_33]
  rw [n34_34]
  rw [n34_35]
  rw [s34_12]
  refine onV_c fun v1 => ?_
  refine onV_c fun v2 => ?_
  refine onV_c fun v3 => ?_
  rw [hSeq_n]
  rw [n34_36]
  rw [n34_37]
  generalize e : (FG 66 d [(33, (.int .i64 0)), (32, v3), (31, v2), (30, v1)]) = a
  rw [show a = (FF 66 (gf a)) from (FF_gf (by subst e; exact FG_len)).symm]
  exact (f34_l10_at (d := gf a) (f34_l10_eq call k k)).trans (by subst e; kernel_rfl)
noncomputable def f34_l4b (call : Handle) (k : Nat) (sg_l4 : Sg4) (x1 x20 x21 x22 : Value) (H : GH) : M (Value × GH) :=
  onV ((oBin Try.prog .lss 3 x22 x21).filter closed) fun v1 =>
  onBool (asB v1)
  (onV (oIndexAddr Try.prog 85 x20 x22) fun v2 =>
  onV (gLoad Try.prog 93 v2 H) fun v3 =>
  onH (gStore Try.prog 93 (.pointer (some ⟨H.n, 0, none⟩)) v3 (GH.push H (.row [(.int .i64 0), (.int .i64 0)] 93 false))) fun H4 =>
  onV (gLoad Try.prog 93 (.pointer (some ⟨H.n, 0, none⟩)) H4) fun v5 =>
  onCall 0 call (.func (.func 94) #[] #[]) [v5] H4 fun v6 H7 =>
  onV ((oUn Try.prog .not v6).filter closed) fun v8 =>
  onBool (asB v8)
  (some [((.int .i64 1), H7)])
  (onV ((oBin Try.prog .add 3 x22 (.int .i64 1)).filter closed) fun v9 =>
  (sg_l4 x1 x20 x21 v9 H7)))
  ((f34_r9 call k x1 H))
theorem f34_l4b_eq (call : Handle) (k : Nat) (ag_l4 : AG) (sg_l4 : Sg4) (h_l4 : f34_l4_P ag_l4 sg_l4) : g34 call k [1,1,0,1,0,0] (FF 66 d) H (hLoop ag_l4 (hBlock 0 (hSeq (g34 call k [1,1,1]) (hFin Try.prog Try.f34)))) = f34_l4b call k sg_l4 (d 1) (d 20) (d 21) (d 22) H := by
  unfold f34_l4b
  rw [n34_15]
  rw [n34_16]
  rw [s34_7]
  refine onV_c fun v1 => ?_
  rw [hSeq_n]
  rw [n34_17]
  rw [n34_18]
  refine onBool_cc (by kernel_rfl) ?_ ?_
  · rw [n34_19]
    rw [hSeq_n]
    rw [n34_20]
    rw [n34_21]
    rw [n34_22]
    rw [n34_23]
    rw [s34_8]
    refine onV_c fun v2 => ?_
    refine onV_c fun v3 => ?_
    refine onH_c fun H4 => ?_
    rw [hSeq_n]
    rw [n34_24]
    rw [n34_25]
    rw [s34_9]
    refine onV_c fun v5 => ?_
    refine onCall_c fun v6 H7 => ?_
    refine onV_c fun v8 => ?_
    rw [hSeq_n]
    rw [n34_26]
    refine onBool_cc (by kernel_rfl) ?_ ?_
    · rw [n34_27]
      rw [n34_28]
      rw [s34_10]
      rw [hSeq_n]
      rw [n34_29]
      rw [hBlock_r, hSeq_r, hLoop_r, hBlock_r, hSeq_r]
      kernel_rfl
    · rw [n34_30]
      rw [hBlock_n]
      rw [hSeq_n]
      rw [n34_31]
      rw [s34_11]
      refine onV_c fun v9 => ?_
      rw [hLoop_n]
      generalize e : (FG 66 d [(22, v9), (29, v9), (28, v8), (27, v6), (26, v5), (4, (.pointer (some ⟨H.n, 0, none⟩))), (25, v3), (24, v2), (23, v1)]) = a
      rw [show a = (FF 66 (gf a)) from (FF_gf (by subst e; exact FG_len)).symm]
      exact (f34_l4_at (d := gf a) h_l4).trans (by subst e; kernel_rfl)
  · rw [n34_32]
    rw [hSeq_e, hLoop_e, hBlock_hit]
    rw [hSeq_n]
    generalize e : (FG 66 d [(23, v1)]) = a
    rw [show a = (FF 66 (gf a)) from (FF_gf (by subst e; exact FG_len)).symm]
    exact (f34_r9_eq (d := gf a) call k).trans (by subst e; kernel_rfl)
noncomputable def f34_l4 (call : Handle) (k : Nat) : Nat → Value → Value → Value → Value → GH → M (Value × GH)
  | 0, _, _, _, _, _ => none
  | r + 1, x1, x20, x21, x22, H => f34_l4b call k (f34_l4 call k r) x1 x20 x21 x22 H
theorem f34_l4_eq (call : Handle) (k : Nat) : ∀ (r : Nat), f34_l4_P (gLoop (g34 call k [1,1,0,1,0,0]) (hBlock 0 (hSeq (g34 call k [1,1,1]) (hFin Try.prog Try.f34))) r) (f34_l4 call k r) := by
  intro r
  induction r with
  | zero => unfold f34_l4_P; intros; rfl
  | succ r ih => unfold f34_l4_P; intros; exact f34_l4b_eq call k _ _ ih
noncomputable def f34_g1_5 (call : Handle) (k : Nat) (x13 : Value) (x1 : Value) (H : GH) : M (Value × GH) :=
 onBool (asB x13)
  (some [((.int .i64 3), H)])
  (onV (oFieldAddr Try.prog 88 x1 1) fun v1 =>
  onV (gLoad Try.prog 86 v1 H) fun v2 =>
  onV (oLen Try.prog 86 v2) fun v3 =>
  onV ((oBin Try.prog .gtr 3 v3 (.int .i64 512)).filter closed) fun v4 =>
  onBool (asB v4)
  (some [((.int .i64 3), H)])
  (onV (oFieldAddr Try.prog 88 x1 0) fun v5 =>
  onV (gLoad Try.prog 85 v5 H) fun v6 =>
  onV (oLen Try.prog 85 v6) fun v7 =>
  (f34_l4 call k k x1 v6 v7 (.int .i64 0) H)))
theorem f34_g1_5_true (call : Handle) (k : Nat) : o34 0 call [1,0,0] 5 (FG 66 d [(13, (.bool true))]) H ((hSeq (g34 call k [1,0,1]) (hSeq (g34 call k [1,1]) (hFin Try.prog Try.f34))) .normal) =
  some [((.int .i64 3), H)] := by
  rw [s34_2]
  rw [hSeq_n]
  rw [n34_5]
  refine (onBool_tt (by kernel_rfl)).trans ?_
  rw [n34_6]
  rw [n34_7]
  rw [s34_3]
  rw [hSeq_n]
  rw [n34_8]
  rw [hSeq_r]
  kernel_rfl
theorem f34_g1_5_false (call : Handle) (k : Nat) : o34 0 call [1,0,0] 5 (FG 66 d [(13, (.bool false))]) H ((hSeq (g34 call k [1,0,1]) (hSeq (g34 call k [1,1]) (hFin Try.prog Try.f34))) .normal) =
  onV (oFieldAddr Try.prog 88 (d 1) 1) fun v1 =>
  onV (gLoad Try.prog 86 v1 H) fun v2 =>
  onV (oLen Try.prog 86 v2) fun v3 =>
  onV ((oBin Try.prog .gtr 3 v3 (.int .i64 512)).filter closed) fun v4 =>
  onBool (asB v4)
  (some [((.int .i64 3), H)])
  (onV (oFieldAddr Try.prog 88 (d 1) 0) fun v5 =>
  onV (gLoad Try.prog 85 v5 H) fun v6 =>
  onV (oLen Try.prog 85 v6) fun v7 =>
  (f34_l4 call k k (d 1) v6 v7 (.int .i64 0) H)) := by
  rw [s34_4]
  refine onV_c fun v1 => ?_
  refine onV_c fun v2 => ?_
  refine onV_c fun v3 => ?_
  refine onV_c fun v4 => ?_
  rw [hSeq_n]
  rw [n34_5]
  refine onBool_cc (by kernel_rfl) ?_ ?_
  · rw [n34_6]
    rw [n34_7]
    rw [s34_5]
    rw [hSeq_n]
    rw [n34_8]
    rw [hSeq_r]
    kernel_rfl
  · rw [n34_9]
    rw [hSeq_n]
    rw [n34_10]
    rw [n34_11]
    rw [n34_12]
    rw [s34_6]
    refine onV_c fun v5 => ?_
    refine onV_c fun v6 => ?_
    refine onV_c fun v7 => ?_
    rw [hSeq_n]
    rw [n34_13]
    rw [n34_14]
    generalize e : (FG 66 d [(22, (.int .i64 0)), (21, v7), (20, v6), (19, v5), (18, v4), (17, v4), (16, v3), (15, v2), (14, v1), (13, (.bool false))]) = a
    rw [show a = (FF 66 (gf a)) from (FF_gf (by subst e; exact FG_len)).symm]
    exact (f34_l4_at (d := gf a) (f34_l4_eq call k k)).trans (by subst e; kernel_rfl)
theorem f34_g1_5_eq (call : Handle) (k : Nat) : onGrd true xg (o34 0 call [1,0,0] 5 (FG 66 d [(13, xg)]) H ((hSeq (g34 call k [1,0,1]) (hSeq (g34 call k [1,1]) (hFin Try.prog Try.f34))) .normal)) =
  f34_g1_5 call k xg (d 1) H := by
  cases xg with
  | bool b => cases b with
    | true => exact onGrd_b.trans (f34_g1_5_true call k)
    | false => exact onGrd_b.trans (f34_g1_5_false call k)
  | _ => kernel_rfl
noncomputable def f34_sh (call : Handle) (k : Nat) (p0 : Value) (H : GH) : M (Value × GH) :=
  onV (gLoad Try.prog 85 (.pointer (some ⟨H.n, 0, none⟩)) (GH.push H (.row (Value.cells p0).toList 88 false))) fun v1 =>
  onV (oLen Try.prog 85 v1) fun v2 =>
  onV ((oBin Try.prog .gtr 3 v2 (.int .i64 512)).filter closed) fun v3 =>
  (f34_g1_5 call k v3 (.pointer (some ⟨H.n, 0, none⟩)) (GH.push H (.row (Value.cells p0).toList 88 false)))
theorem f34_run (call : Handle) (k : Nat) (p0 : Value) (H : GH) : g34 call k [] (FG 66 (fun _ => undef) [(0, p0)]) H (hFin Try.prog Try.f34) = f34_sh call k p0 H := by
  unfold f34_sh
  rw [n34_0]
  rw [n34_1]
  rw [s34_0]
  rw [hSeq_n]
  rw [n34_2]
  rw [n34_3]
  rw [n34_4]
  rw [o34_s 0 5, s34_1]
  refine onV_c fun v1 => ?_
  refine onV_c fun v2 => ?_
  refine onV_c fun v3 => ?_
  generalize e : (FG 66 (fun _ => undef) [(13, v3), (12, v3), (11, v2), (10, v1), (9, (.pointer (some ⟨H.n, 0, none⟩))), (2, (.int .i64 0)), (1, (.pointer (some ⟨H.n, 0, none⟩))), (0, p0)]) = a
  rw [show a = (FG 66 (gf a) [(13, v3)]) from (FG_eq (by subst e; exact FG_len) (FS_cons (by subst e; kernel_rfl) (FS_nil))).symm]
  exact (f34_g1_5_eq (d := gf a) call k).trans (by subst e; kernel_rfl)
theorem f34_eq (call : Handle) (k : Nat) (p0 : Value) (H : GH) : gFunc Try.prog call k Try.f34 [p0] H = f34_sh call k p0 H :=
  Eq.trans (by kernel_rfl) (f34_run call k p0 H)
end
noncomputable def g94 {β : Type} (call : Handle) (k : Nat) (p : List Nat) : GA → GH → Kont β → M β := gCode Try.prog call k (fAt Try.f94 p)
noncomputable def o94 {β : Type} (d : Nat) (call : Handle) (p : List Nat) (i : Nat) : GA → GH → (GA → GH → M β) → M β := gOps Try.prog d call (opsAt (fAt Try.f94 p)) ((opsAt (fAt Try.f94 p)).drop i)
noncomputable def t94 {β : Type} (d : Nat) (call : Handle) (p : List Nat) (i n : Nat) : GA → GH → (GA → GH → M β) → M β := gOps Try.prog d call (opsAt (fAt Try.f94 p)) (((opsAt (fAt Try.f94 p)).drop i).take n)
theorem o94_s {β : Type} {d : Nat} {call : Handle} {p : List Nat} {a : GA} {H : GH} {K : GA → GH → M β} (i n : Nat) : o94 d call p i a H K = t94 d call p i n a H fun a H => o94 d call p (i + n) a H K := gOps_split i n
section
variable {β : Type} {call : Handle} {k : Nat} {a : GA} {K : Kont β} {K' : GA → GH → M β}
variable {d : Nat → Value} {xg : Value}
variable {p0 : Value}
variable {H : GH}
theorem n94_0 : g94 call k [] a H K = g94 call k [0] a H (hSeq (g94 call k [1]) K) := at_seq (by kernel_rfl)
theorem n94_1 : g94 call k [0] a H K = o94 0 call [0] 0 a H (K .normal) := at_region (by kernel_rfl)
theorem n94_2 : g94 call k [1] a H K = g94 call k [1,0] a H (hSeq (g94 call k [1,1]) K) := at_seq (by kernel_rfl)
theorem n94_3 : g94 call k [1,0] a H K = o94 0 call [1,0] 0 a H (K .normal) := at_region (by kernel_rfl)
theorem n94_4 : g94 call k [1,1] a H K = K .ret a H := at_ret (by kernel_rfl)
theorem s94_0 : o94 0 call [0] 0 (FG 21 (fun _ => undef) [(0, p0)]) H K' =
  K' (FG 21 (fun _ => undef) [(2, (.bool false)), (1, (.pointer (some ⟨H.n, 0, none⟩))), (0, p0)]) (GH.push H (.row (Value.cells p0).toList 93 false)) := by kernel_rfl
theorem s94_1 : t94 0 call [1,0] 0 4 (FF 21 d) H K' =
  onV (oFieldAddr Try.prog 93 (d 1) 0) fun v1 =>
  onV (gLoad Try.prog 3 v1 H) fun v2 =>
  onV ((oBin Try.prog .geq 3 v2 (.int .i64 1)).filter closed) fun v3 =>
  onGrd true v3 (K' (FG 21 d [(6, v3), (5, v3), (4, v2), (3, v1)]) H) := by kernel_rfl
theorem s94_2 : t94 0 call [1,0] 4 5 (FG 21 d [(6, (.bool true))]) H K' =
  onV (oFieldAddr Try.prog 93 (d 1) 0) fun v1 =>
  onV (gLoad Try.prog 3 v1 H) fun v2 =>
  onV ((oBin Try.prog .leq 3 v2 (.int .i64 1000)).filter closed) fun v3 =>
  onGrd true v3 (K' (FG 21 d [(11, v3), (10, v3), (9, v3), (8, v2), (7, v1), (6, (.bool true))]) H) := by kernel_rfl
theorem s94_3 : o94 0 call [1,0] 4 (FG 21 d [(6, (.bool false))]) H K' =
  K' (FG 21 d [(2, (.bool false)), (20, (.bool false)), (19, undef), (18, undef), (17, undef), (16, (.bool false)), (15, (.bool false)), (14, undef), (13, undef), (12, undef), (11, (.bool false)), (10, (.bool false)), (9, undef), (8, undef), (7, undef), (6, (.bool false))]) H := by kernel_rfl
theorem s94_4 : t94 0 call [1,0] 9 5 (FG 21 d [(11, (.bool true))]) H K' =
  onV (oFieldAddr Try.prog 93 (d 1) 1) fun v1 =>
  onV (gLoad Try.prog 3 v1 H) fun v2 =>
  onV ((oBin Try.prog .geq 3 v2 (.int .i64 1)).filter closed) fun v3 =>
  onGrd true v3 (K' (FG 21 d [(16, v3), (15, v3), (14, v3), (13, v2), (12, v1), (11, (.bool true))]) H) := by kernel_rfl
theorem s94_5 : o94 0 call [1,0] 9 (FG 21 d [(11, (.bool false))]) H K' =
  K' (FG 21 d [(2, (.bool false)), (20, (.bool false)), (19, undef), (18, undef), (17, undef), (16, (.bool false)), (15, (.bool false)), (14, undef), (13, undef), (12, undef), (11, (.bool false))]) H := by kernel_rfl
theorem s94_6 : o94 0 call [1,0] 14 (FG 21 d [(16, (.bool true))]) H K' =
  onV (oFieldAddr Try.prog 93 (d 1) 1) fun v1 =>
  onV (gLoad Try.prog 3 v1 H) fun v2 =>
  onV ((oBin Try.prog .leq 3 v2 (.int .i64 1000000000)).filter closed) fun v3 =>
  K' (FG 21 d [(2, v3), (20, v3), (19, v3), (18, v2), (17, v1), (16, (.bool true))]) H := by kernel_rfl
theorem s94_7 : o94 0 call [1,0] 14 (FG 21 d [(16, (.bool false))]) H K' =
  K' (FG 21 d [(2, (.bool false)), (20, (.bool false)), (19, undef), (18, undef), (17, undef), (16, (.bool false))]) H := by kernel_rfl
noncomputable def f94_g1_14 (call : Handle) (k : Nat) (x16 : Value) (x1 : Value) (H : GH) : M (Value × GH) :=
 onBool (asB x16)
  (onV (oFieldAddr Try.prog 93 x1 1) fun v1 =>
  onV (gLoad Try.prog 3 v1 H) fun v2 =>
  onV ((oBin Try.prog .leq 3 v2 (.int .i64 1000000000)).filter closed) fun v3 =>
  some [(v3, H)])
  (some [((.bool false), H)])
theorem f94_g1_14_true (call : Handle) (k : Nat) : o94 0 call [1,0] 14 (FG 21 d [(16, (.bool true))]) H ((hSeq (g94 call k [1,1]) (hFin Try.prog Try.f94)) .normal) =
  onV (oFieldAddr Try.prog 93 (d 1) 1) fun v1 =>
  onV (gLoad Try.prog 3 v1 H) fun v2 =>
  onV ((oBin Try.prog .leq 3 v2 (.int .i64 1000000000)).filter closed) fun v3 =>
  some [(v3, H)] := by
  rw [s94_6]
  refine onV_c fun v1 => ?_
  refine onV_c fun v2 => ?_
  refine onV_c fun v3 => ?_
  rw [hSeq_n]
  rw [n94_4]
  kernel_rfl
theorem f94_g1_14_false (call : Handle) (k : Nat) : o94 0 call [1,0] 14 (FG 21 d [(16, (.bool false))]) H ((hSeq (g94 call k [1,1]) (hFin Try.prog Try.f94)) .normal) =
  some [((.bool false), H)] := by
  rw [s94_7]
  rw [hSeq_n]
  rw [n94_4]
  kernel_rfl
theorem f94_g1_14_eq (call : Handle) (k : Nat) : onGrd true xg (o94 0 call [1,0] 14 (FG 21 d [(16, xg)]) H ((hSeq (g94 call k [1,1]) (hFin Try.prog Try.f94)) .normal)) =
  f94_g1_14 call k xg (d 1) H := by
  cases xg with
  | bool b => cases b with
    | true => exact onGrd_b.trans (f94_g1_14_true call k)
    | false => exact onGrd_b.trans (f94_g1_14_false call k)
  | _ => kernel_rfl
noncomputable def f94_g1_9 (call : Handle) (k : Nat) (x11 : Value) (x1 : Value) (H : GH) : M (Value × GH) :=
 onBool (asB x11)
  (onV (oFieldAddr Try.prog 93 x1 1) fun v1 =>
  onV (gLoad Try.prog 3 v1 H) fun v2 =>
  onV ((oBin Try.prog .geq 3 v2 (.int .i64 1)).filter closed) fun v3 =>
  (f94_g1_14 call k v3 x1 H))
  (some [((.bool false), H)])
theorem f94_g1_9_true (call : Handle) (k : Nat) : o94 0 call [1,0] 9 (FG 21 d [(11, (.bool true))]) H ((hSeq (g94 call k [1,1]) (hFin Try.prog Try.f94)) .normal) =
  onV (oFieldAddr Try.prog 93 (d 1) 1) fun v1 =>
  onV (gLoad Try.prog 3 v1 H) fun v2 =>
  onV ((oBin Try.prog .geq 3 v2 (.int .i64 1)).filter closed) fun v3 =>
  (f94_g1_14 call k v3 (d 1) H) := by
  rw [o94_s 9 5, s94_4]
  refine onV_c fun v1 => ?_
  refine onV_c fun v2 => ?_
  refine onV_c fun v3 => ?_
  generalize e : (FG 21 d [(16, v3), (15, v3), (14, v3), (13, v2), (12, v1), (11, (.bool true))]) = a
  rw [show a = (FG 21 (gf a) [(16, v3)]) from (FG_eq (by subst e; exact FG_len) (FS_cons (by subst e; kernel_rfl) (FS_nil))).symm]
  exact (f94_g1_14_eq (d := gf a) call k).trans (by subst e; kernel_rfl)
theorem f94_g1_9_false (call : Handle) (k : Nat) : o94 0 call [1,0] 9 (FG 21 d [(11, (.bool false))]) H ((hSeq (g94 call k [1,1]) (hFin Try.prog Try.f94)) .normal) =
  some [((.bool false), H)] := by
  rw [s94_5]
  rw [hSeq_n]
  rw [n94_4]
  kernel_rfl
theorem f94_g1_9_eq (call : Handle) (k : Nat) : onGrd true xg (o94 0 call [1,0] 9 (FG 21 d [(11, xg)]) H ((hSeq (g94 call k [1,1]) (hFin Try.prog Try.f94)) .normal)) =
  f94_g1_9 call k xg (d 1) H := by
  cases xg with
  | bool b => cases b with
    | true => exact onGrd_b.trans (f94_g1_9_true call k)
    | false => exact onGrd_b.trans (f94_g1_9_false call k)
  | _ => kernel_rfl
noncomputable def f94_g1_4 (call : Handle) (k : Nat) (x6 : Value) (x1 : Value) (H : GH) : M (Value × GH) :=
 onBool (asB x6)
  (onV (oFieldAddr Try.prog 93 x1 0) fun v1 =>
  onV (gLoad Try.prog 3 v1 H) fun v2 =>
  onV ((oBin Try.prog .leq 3 v2 (.int .i64 1000)).filter closed) fun v3 =>
  (f94_g1_9 call k v3 x1 H))
  (some [((.bool false), H)])
theorem f94_g1_4_true (call : Handle) (k : Nat) : o94 0 call [1,0] 4 (FG 21 d [(6, (.bool true))]) H ((hSeq (g94 call k [1,1]) (hFin Try.prog Try.f94)) .normal) =
  onV (oFieldAddr Try.prog 93 (d 1) 0) fun v1 =>
  onV (gLoad Try.prog 3 v1 H) fun v2 =>
  onV ((oBin Try.prog .leq 3 v2 (.int .i64 1000)).filter closed) fun v3 =>
  (f94_g1_9 call k v3 (d 1) H) := by
  rw [o94_s 4 5, s94_2]
  refine onV_c fun v1 => ?_
  refine onV_c fun v2 => ?_
  refine onV_c fun v3 => ?_
  generalize e : (FG 21 d [(11, v3), (10, v3), (9, v3), (8, v2), (7, v1), (6, (.bool true))]) = a
  rw [show a = (FG 21 (gf a) [(11, v3)]) from (FG_eq (by subst e; exact FG_len) (FS_cons (by subst e; kernel_rfl) (FS_nil))).symm]
  exact (f94_g1_9_eq (d := gf a) call k).trans (by subst e; kernel_rfl)
theorem f94_g1_4_false (call : Handle) (k : Nat) : o94 0 call [1,0] 4 (FG 21 d [(6, (.bool false))]) H ((hSeq (g94 call k [1,1]) (hFin Try.prog Try.f94)) .normal) =
  some [((.bool false), H)] := by
  rw [s94_3]
  rw [hSeq_n]
  rw [n94_4]
  kernel_rfl
theorem f94_g1_4_eq (call : Handle) (k : Nat) : onGrd true xg (o94 0 call [1,0] 4 (FG 21 d [(6, xg)]) H ((hSeq (g94 call k [1,1]) (hFin Try.prog Try.f94)) .normal)) =
  f94_g1_4 call k xg (d 1) H := by
  cases xg with
  | bool b => cases b with
    | true => exact onGrd_b.trans (f94_g1_4_true call k)
    | false => exact onGrd_b.trans (f94_g1_4_false call k)
  | _ => kernel_rfl
noncomputable def f94_r1 (call : Handle) (k : Nat) (x1 : Value) (H : GH) : M (Value × GH) :=
  onV (oFieldAddr Try.prog 93 x1 0) fun v1 =>
  onV (gLoad Try.prog 3 v1 H) fun v2 =>
  onV ((oBin Try.prog .geq 3 v2 (.int .i64 1)).filter closed) fun v3 =>
  (f94_g1_4 call k v3 x1 H)
theorem f94_r1_eq (call : Handle) (k : Nat) : g94 call k [1,0] (FF 21 d) H (hSeq (g94 call k [1,1]) (hFin Try.prog Try.f94)) = f94_r1 call k (d 1) H := by
  unfold f94_r1
  rw [n94_3]
  rw [o94_s 0 4, s94_1]
  refine onV_c fun v1 => ?_
  refine onV_c fun v2 => ?_
  refine onV_c fun v3 => ?_
  generalize e : (FG 21 d [(6, v3), (5, v3), (4, v2), (3, v1)]) = a
  rw [show a = (FG 21 (gf a) [(6, v3)]) from (FG_eq (by subst e; exact FG_len) (FS_cons (by subst e; kernel_rfl) (FS_nil))).symm]
  exact (f94_g1_4_eq (d := gf a) call k).trans (by subst e; kernel_rfl)
noncomputable def f94_sh (call : Handle) (k : Nat) (p0 : Value) (H : GH) : M (Value × GH) :=
  (f94_r1 call k (.pointer (some ⟨H.n, 0, none⟩)) (GH.push H (.row (Value.cells p0).toList 93 false)))
theorem f94_run (call : Handle) (k : Nat) (p0 : Value) (H : GH) : g94 call k [] (FG 21 (fun _ => undef) [(0, p0)]) H (hFin Try.prog Try.f94) = f94_sh call k p0 H := by
  unfold f94_sh
  rw [n94_0]
  rw [n94_1]
  rw [s94_0]
  rw [hSeq_n]
  rw [n94_2]
  generalize e : (FG 21 (fun _ => undef) [(2, (.bool false)), (1, (.pointer (some ⟨H.n, 0, none⟩))), (0, p0)]) = a
  rw [show a = (FF 21 (gf a)) from (FF_gf (by subst e; exact FG_len)).symm]
  exact (f94_r1_eq (d := gf a) call k).trans (by subst e; kernel_rfl)
theorem f94_eq (call : Handle) (k : Nat) (p0 : Value) (H : GH) : gFunc Try.prog call k Try.f94 [p0] H = f94_sh call k p0 H :=
  Eq.trans (by kernel_rfl) (f94_run call k p0 H)
end
noncomputable def g95 {β : Type} (call : Handle) (k : Nat) (p : List Nat) : GA → GH → Kont β → M β := gCode Try.prog call k (fAt Try.f95 p)
noncomputable def o95 {β : Type} (d : Nat) (call : Handle) (p : List Nat) (i : Nat) : GA → GH → (GA → GH → M β) → M β := gOps Try.prog d call (opsAt (fAt Try.f95 p)) ((opsAt (fAt Try.f95 p)).drop i)
noncomputable def t95 {β : Type} (d : Nat) (call : Handle) (p : List Nat) (i n : Nat) : GA → GH → (GA → GH → M β) → M β := gOps Try.prog d call (opsAt (fAt Try.f95 p)) (((opsAt (fAt Try.f95 p)).drop i).take n)
theorem o95_s {β : Type} {d : Nat} {call : Handle} {p : List Nat} {a : GA} {H : GH} {K : GA → GH → M β} (i n : Nat) : o95 d call p i a H K = t95 d call p i n a H fun a H => o95 d call p (i + n) a H K := gOps_split i n
section
variable {β : Type} {call : Handle} {k : Nat} {a : GA} {K : Kont β} {K' : GA → GH → M β}
variable {d : Nat → Value} {xg : Value}
variable {p0 : Value}
variable {H : GH}
theorem n95_0 : g95 call k [] a H K = g95 call k [0] a H (hSeq (g95 call k [1]) K) := at_seq (by kernel_rfl)
theorem n95_1 : g95 call k [0] a H K = o95 0 call [0] 0 a H (K .normal) := at_region (by kernel_rfl)
theorem n95_2 : g95 call k [1] a H K = g95 call k [1,0] a H (hSeq (g95 call k [1,1]) K) := at_seq (by kernel_rfl)
theorem n95_3 : g95 call k [1,0] a H K = o95 0 call [1,0] 0 a H (K .normal) := at_region (by kernel_rfl)
theorem n95_4 : g95 call k [1,1] a H K = K .ret a H := at_ret (by kernel_rfl)
theorem s95_0 : o95 0 call [0] 0 (FG 19 (fun _ => undef) [(0, p0)]) H K' =
  K' (FG 19 (fun _ => undef) [(2, (.bool false)), (1, (.pointer (some ⟨H.n, 0, none⟩))), (0, p0)]) (GH.push H (.row (Value.cells p0).toList 91 false)) := by kernel_rfl
theorem s95_1 : t95 0 call [1,0] 0 4 (FF 19 d) H K' =
  onV (oFieldAddr Try.prog 91 (d 1) 0) fun v1 =>
  onV (gLoad Try.prog 3 v1 H) fun v2 =>
  onV ((oBin Try.prog .geq 3 v2 (.int .i64 1)).filter closed) fun v3 =>
  onGrd true v3 (K' (FG 19 d [(6, v3), (5, v3), (4, v2), (3, v1)]) H) := by kernel_rfl
theorem s95_2 : t95 0 call [1,0] 4 5 (FG 19 d [(6, (.bool true))]) H K' =
  onV (oFieldAddr Try.prog 91 (d 1) 0) fun v1 =>
  onV (gLoad Try.prog 3 v1 H) fun v2 =>
  onV ((oBin Try.prog .leq 3 v2 (.int .i64 100000)).filter closed) fun v3 =>
  onGrd true v3 (K' (FG 19 d [(11, v3), (10, v3), (9, v3), (8, v2), (7, v1), (6, (.bool true))]) H) := by kernel_rfl
theorem s95_3 : o95 0 call [1,0] 4 (FG 19 d [(6, (.bool false))]) H K' =
  K' (FG 19 d [(2, (.bool false)), (18, (.bool false)), (17, undef), (16, undef), (15, undef), (14, undef), (13, undef), (12, undef), (11, (.bool false)), (10, (.bool false)), (9, undef), (8, undef), (7, undef), (6, (.bool false))]) H := by kernel_rfl
theorem s95_4 : o95 0 call [1,0] 9 (FG 19 d [(11, (.bool true))]) H K' =
  onV (oFieldAddr Try.prog 91 (d 1) 1) fun v1 =>
  onV (gLoad Try.prog 3 v1 H) fun v2 =>
  onV (oFieldAddr Try.prog 91 (d 1) 2) fun v3 =>
  onV (gLoad Try.prog 3 v3 H) fun v4 =>
  onV (oBuild Try.prog 93 [(0, v2), (1, v4)]) fun v5 =>
  onCall 0 call (.func (.func 94) #[] #[]) [v5] H fun v6 H7 =>
  K' (FG 19 d [(2, v6), (18, v6), (17, v6), (16, v5), (15, v4), (14, v3), (13, v2), (12, v1), (11, (.bool true))]) H7 := by kernel_rfl
theorem s95_5 : o95 0 call [1,0] 9 (FG 19 d [(11, (.bool false))]) H K' =
  K' (FG 19 d [(2, (.bool false)), (18, (.bool false)), (17, undef), (16, undef), (15, undef), (14, undef), (13, undef), (12, undef), (11, (.bool false))]) H := by kernel_rfl
noncomputable def f95_g1_9 (call : Handle) (k : Nat) (x11 : Value) (x1 : Value) (H : GH) : M (Value × GH) :=
 onBool (asB x11)
  (onV (oFieldAddr Try.prog 91 x1 1) fun v1 =>
  onV (gLoad Try.prog 3 v1 H) fun v2 =>
  onV (oFieldAddr Try.prog 91 x1 2) fun v3 =>
  onV (gLoad Try.prog 3 v3 H) fun v4 =>
  onV (oBuild Try.prog 93 [(0, v2), (1, v4)]) fun v5 =>
  onCall 0 call (.func (.func 94) #[] #[]) [v5] H fun v6 H7 =>
  some [(v6, H7)])
  (some [((.bool false), H)])
theorem f95_g1_9_true (call : Handle) (k : Nat) : o95 0 call [1,0] 9 (FG 19 d [(11, (.bool true))]) H ((hSeq (g95 call k [1,1]) (hFin Try.prog Try.f95)) .normal) =
  onV (oFieldAddr Try.prog 91 (d 1) 1) fun v1 =>
  onV (gLoad Try.prog 3 v1 H) fun v2 =>
  onV (oFieldAddr Try.prog 91 (d 1) 2) fun v3 =>
  onV (gLoad Try.prog 3 v3 H) fun v4 =>
  onV (oBuild Try.prog 93 [(0, v2), (1, v4)]) fun v5 =>
  onCall 0 call (.func (.func 94) #[] #[]) [v5] H fun v6 H7 =>
  some [(v6, H7)] := by
  rw [s95_4]
  refine onV_c fun v1 => ?_
  refine onV_c fun v2 => ?_
  refine onV_c fun v3 => ?_
  refine onV_c fun v4 => ?_
  refine onV_c fun v5 => ?_
  refine onCall_c fun v6 H7 => ?_
  rw [hSeq_n]
  rw [n95_4]
  kernel_rfl
theorem f95_g1_9_false (call : Handle) (k : Nat) : o95 0 call [1,0] 9 (FG 19 d [(11, (.bool false))]) H ((hSeq (g95 call k [1,1]) (hFin Try.prog Try.f95)) .normal) =
  some [((.bool false), H)] := by
  rw [s95_5]
  rw [hSeq_n]
  rw [n95_4]
  kernel_rfl
theorem f95_g1_9_eq (call : Handle) (k : Nat) : onGrd true xg (o95 0 call [1,0] 9 (FG 19 d [(11, xg)]) H ((hSeq (g95 call k [1,1]) (hFin Try.prog Try.f95)) .normal)) =
  f95_g1_9 call k xg (d 1) H := by
  cases xg with
  | bool b => cases b with
    | true => exact onGrd_b.trans (f95_g1_9_true call k)
    | false => exact onGrd_b.trans (f95_g1_9_false call k)
  | _ => kernel_rfl
noncomputable def f95_g1_4 (call : Handle) (k : Nat) (x6 : Value) (x1 : Value) (H : GH) : M (Value × GH) :=
 onBool (asB x6)
  (onV (oFieldAddr Try.prog 91 x1 0) fun v1 =>
  onV (gLoad Try.prog 3 v1 H) fun v2 =>
  onV ((oBin Try.prog .leq 3 v2 (.int .i64 100000)).filter closed) fun v3 =>
  (f95_g1_9 call k v3 x1 H))
  (some [((.bool false), H)])
theorem f95_g1_4_true (call : Handle) (k : Nat) : o95 0 call [1,0] 4 (FG 19 d [(6, (.bool true))]) H ((hSeq (g95 call k [1,1]) (hFin Try.prog Try.f95)) .normal) =
  onV (oFieldAddr Try.prog 91 (d 1) 0) fun v1 =>
  onV (gLoad Try.prog 3 v1 H) fun v2 =>
  onV ((oBin Try.prog .leq 3 v2 (.int .i64 100000)).filter closed) fun v3 =>
  (f95_g1_9 call k v3 (d 1) H) := by
  rw [o95_s 4 5, s95_2]
  refine onV_c fun v1 => ?_
  refine onV_c fun v2 => ?_
  refine onV_c fun v3 => ?_
  generalize e : (FG 19 d [(11, v3), (10, v3), (9, v3), (8, v2), (7, v1), (6, (.bool true))]) = a
  rw [show a = (FG 19 (gf a) [(11, v3)]) from (FG_eq (by subst e; exact FG_len) (FS_cons (by subst e; kernel_rfl) (FS_nil))).symm]
  exact (f95_g1_9_eq (d := gf a) call k).trans (by subst e; kernel_rfl)
theorem f95_g1_4_false (call : Handle) (k : Nat) : o95 0 call [1,0] 4 (FG 19 d [(6, (.bool false))]) H ((hSeq (g95 call k [1,1]) (hFin Try.prog Try.f95)) .normal) =
  some [((.bool false), H)] := by
  rw [s95_3]
  rw [hSeq_n]
  rw [n95_4]
  kernel_rfl
theorem f95_g1_4_eq (call : Handle) (k : Nat) : onGrd true xg (o95 0 call [1,0] 4 (FG 19 d [(6, xg)]) H ((hSeq (g95 call k [1,1]) (hFin Try.prog Try.f95)) .normal)) =
  f95_g1_4 call k xg (d 1) H := by
  cases xg with
  | bool b => cases b with
    | true => exact onGrd_b.trans (f95_g1_4_true call k)
    | false => exact onGrd_b.trans (f95_g1_4_false call k)
  | _ => kernel_rfl
noncomputable def f95_r1 (call : Handle) (k : Nat) (x1 : Value) (H : GH) : M (Value × GH) :=
  onV (oFieldAddr Try.prog 91 x1 0) fun v1 =>
  onV (gLoad Try.prog 3 v1 H) fun v2 =>
  onV ((oBin Try.prog .geq 3 v2 (.int .i64 1)).filter closed) fun v3 =>
  (f95_g1_4 call k v3 x1 H)
theorem f95_r1_eq (call : Handle) (k : Nat) : g95 call k [1,0] (FF 19 d) H (hSeq (g95 call k [1,1]) (hFin Try.prog Try.f95)) = f95_r1 call k (d 1) H := by
  unfold f95_r1
  rw [n95_3]
  rw [o95_s 0 4, s95_1]
  refine onV_c fun v1 => ?_
  refine onV_c fun v2 => ?_
  refine onV_c fun v3 => ?_
  generalize e : (FG 19 d [(6, v3), (5, v3), (4, v2), (3, v1)]) = a
  rw [show a = (FG 19 (gf a) [(6, v3)]) from (FG_eq (by subst e; exact FG_len) (FS_cons (by subst e; kernel_rfl) (FS_nil))).symm]
  exact (f95_g1_4_eq (d := gf a) call k).trans (by subst e; kernel_rfl)
noncomputable def f95_sh (call : Handle) (k : Nat) (p0 : Value) (H : GH) : M (Value × GH) :=
  (f95_r1 call k (.pointer (some ⟨H.n, 0, none⟩)) (GH.push H (.row (Value.cells p0).toList 91 false)))
theorem f95_run (call : Handle) (k : Nat) (p0 : Value) (H : GH) : g95 call k [] (FG 19 (fun _ => undef) [(0, p0)]) H (hFin Try.prog Try.f95) = f95_sh call k p0 H := by
  unfold f95_sh
  rw [n95_0]
  rw [n95_1]
  rw [s95_0]
  rw [hSeq_n]
  rw [n95_2]
  generalize e : (FG 19 (fun _ => undef) [(2, (.bool false)), (1, (.pointer (some ⟨H.n, 0, none⟩))), (0, p0)]) = a
  rw [show a = (FF 19 (gf a)) from (FF_gf (by subst e; exact FG_len)).symm]
  exact (f95_r1_eq (d := gf a) call k).trans (by subst e; kernel_rfl)
theorem f95_eq (call : Handle) (k : Nat) (p0 : Value) (H : GH) : gFunc Try.prog call k Try.f95 [p0] H = f95_sh call k p0 H :=
  Eq.trans (by kernel_rfl) (f95_run call k p0 H)
end
noncomputable def g96 {β : Type} (call : Handle) (k : Nat) (p : List Nat) : GA → GH → Kont β → M β := gCode Try.prog call k (fAt Try.f96 p)
noncomputable def o96 {β : Type} (d : Nat) (call : Handle) (p : List Nat) (i : Nat) : GA → GH → (GA → GH → M β) → M β := gOps Try.prog d call (opsAt (fAt Try.f96 p)) ((opsAt (fAt Try.f96 p)).drop i)
noncomputable def t96 {β : Type} (d : Nat) (call : Handle) (p : List Nat) (i n : Nat) : GA → GH → (GA → GH → M β) → M β := gOps Try.prog d call (opsAt (fAt Try.f96 p)) (((opsAt (fAt Try.f96 p)).drop i).take n)
theorem o96_s {β : Type} {d : Nat} {call : Handle} {p : List Nat} {a : GA} {H : GH} {K : GA → GH → M β} (i n : Nat) : o96 d call p i a H K = t96 d call p i n a H fun a H => o96 d call p (i + n) a H K := gOps_split i n
section
variable {β : Type} {call : Handle} {k : Nat} {a : GA} {K : Kont β} {K' : GA → GH → M β}
variable {d : Nat → Value} {xg : Value}
variable {p0 p1 : Value}
variable {H : GH}
theorem n96_0 : g96 call k [] a H K = g96 call k [0] a H (hSeq (g96 call k [1]) K) := at_seq (by kernel_rfl)
theorem n96_1 : g96 call k [0] a H K = o96 0 call [0] 0 a H (K .normal) := at_region (by kernel_rfl)
theorem n96_2 : g96 call k [1] a H K = g96 call k [1,0] a H (hSeq (g96 call k [1,1]) K) := at_seq (by kernel_rfl)
theorem n96_3 : g96 call k [1,0] a H K = o96 2 call [1,0] 0 a H (K .normal) := at_region (by kernel_rfl)
theorem n96_4 : g96 call k [1,1] a H K = K .ret a H := at_ret (by kernel_rfl)
theorem s96_0 : o96 0 call [0] 0 (FG 17 (fun _ => undef) [(1, p1), (0, p0)]) H K' =
  K' (FG 17 (fun _ => undef) [(4, (.int .i64 0)), (3, (.pointer (some ⟨(GH.push H (.row (Value.cells p0).toList 91 false)).n, 0, none⟩))), (2, (.pointer (some ⟨H.n, 0, none⟩))), (1, p1), (0, p0)]) (GH.push (GH.push H (.row (Value.cells p0).toList 91 false)) (.row (Value.cells p1).toList 91 false)) := by kernel_rfl
theorem s96_1 : o96 2 call [1,0] 0 (FF 17 d) H K' =
  onV (oFieldAddr Try.prog 91 (d 2) 0) fun v1 =>
  onV (gLoad Try.prog 3 v1 H) fun v2 =>
  onV (oFieldAddr Try.prog 91 (d 3) 0) fun v3 =>
  onV (gLoad Try.prog 3 v3 H) fun v4 =>
  onCall 2 call (.func (.func 112) #[] #[]) [v2, v4] H fun v5 H6 =>
  onV (oFieldAddr Try.prog 91 (d 2) 1) fun v7 =>
  onV (gLoad Try.prog 3 v7 H6) fun v8 =>
  onV (oFieldAddr Try.prog 91 (d 3) 1) fun v9 =>
  onV (gLoad Try.prog 3 v9 H6) fun v10 =>
  onCall 2 call (.func (.func 112) #[] #[]) [v8, v10] H6 fun v11 H12 =>
  onVH (gBuildSlice Try.prog 71 2 [(0, v5), (1, v11)] H12) fun v13 H14 =>
  onCall 2 call (.func (.func 156) #[] #[]) [v13] H14 fun v15 H16 =>
  K' (FG 17 d [(4, v15), (16, v15), (15, v13), (14, v11), (13, v10), (12, v9), (11, v8), (10, v7), (9, v5), (8, v4), (7, v3), (6, v2), (5, v1)]) H16 := by kernel_rfl
noncomputable def f96_r1 (call : Handle) (k : Nat) (x2 x3 : Value) (H : GH) : M (Value × GH) :=
  onV (oFieldAddr Try.prog 91 x2 0) fun v1 =>
  onV (gLoad Try.prog 3 v1 H) fun v2 =>
  onV (oFieldAddr Try.prog 91 x3 0) fun v3 =>
  onV (gLoad Try.prog 3 v3 H) fun v4 =>
  onCall 2 call (.func (.func 112) #[] #[]) [v2, v4] H fun v5 H6 =>
  onV (oFieldAddr Try.prog 91 x2 1) fun v7 =>
  onV (gLoad Try.prog 3 v7 H6) fun v8 =>
  onV (oFieldAddr Try.prog 91 x3 1) fun v9 =>
  onV (gLoad Try.prog 3 v9 H6) fun v10 =>
  onCall 2 call (.func (.func 112) #[] #[]) [v8, v10] H6 fun v11 H12 =>
  onVH (gBuildSlice Try.prog 71 2 [(0, v5), (1, v11)] H12) fun v13 H14 =>
  onCall 2 call (.func (.func 156) #[] #[]) [v13] H14 fun v15 H16 =>
  some [(v15, H16)]
theorem f96_r1_eq (call : Handle) (k : Nat) : g96 call k [1,0] (FF 17 d) H (hSeq (g96 call k [1,1]) (hFin Try.prog Try.f96)) = f96_r1 call k (d 2) (d 3) H := by
  unfold f96_r1
  rw [n96_3]
  rw [s96_1]
  refine onV_c fun v1 => ?_
  refine onV_c fun v2 => ?_
  refine onV_c fun v3 => ?_
  refine onV_c fun v4 => ?_
  refine onCall_c fun v5 H6 => ?_
  refine onV_c fun v7 => ?_
  refine onV_c fun v8 => ?_
  refine onV_c fun v9 => ?_
  refine onV_c fun v10 => ?_
  refine onCall_c fun v11 H12 => ?_
  refine onVH_c fun v13 H14 => ?_
  refine onCall_c fun v15 H16 => ?_
  rw [hSeq_n]
  rw [n96_4]
  kernel_rfl
noncomputable def f96_sh (call : Handle) (k : Nat) (p0 p1 : Value) (H : GH) : M (Value × GH) :=
  (f96_r1 call k (.pointer (some ⟨H.n, 0, none⟩)) (.pointer (some ⟨(GH.push H (.row (Value.cells p0).toList 91 false)).n, 0, none⟩)) (GH.push (GH.push H (.row (Value.cells p0).toList 91 false)) (.row (Value.cells p1).toList 91 false)))
theorem f96_run (call : Handle) (k : Nat) (p0 p1 : Value) (H : GH) : g96 call k [] (FG 17 (fun _ => undef) [(1, p1), (0, p0)]) H (hFin Try.prog Try.f96) = f96_sh call k p0 p1 H := by
  unfold f96_sh
  rw [n96_0]
  rw [n96_1]
  rw [s96_0]
  rw [hSeq_n]
  rw [n96_2]
  generalize e : (FG 17 (fun _ => undef) [(4, (.int .i64 0)), (3, (.pointer (some ⟨(GH.push H (.row (Value.cells p0).toList 91 false)).n, 0, none⟩))), (2, (.pointer (some ⟨H.n, 0, none⟩))), (1, p1), (0, p0)]) = a
  rw [show a = (FF 17 (gf a)) from (FF_gf (by subst e; exact FG_len)).symm]
  exact (f96_r1_eq (d := gf a) call k).trans (by subst e; kernel_rfl)
theorem f96_eq (call : Handle) (k : Nat) (p0 p1 : Value) (H : GH) : gFunc Try.prog call k Try.f96 [p0, p1] H = f96_sh call k p0 p1 H :=
  Eq.trans (by kernel_rfl) (f96_run call k p0 p1 H)
end
noncomputable def g97 {β : Type} (call : Handle) (k : Nat) (p : List Nat) : GA → GH → Kont β → M β := gCode Try.prog call k (fAt Try.f97 p)
noncomputable def o97 {β : Type} (d : Nat) (call : Handle) (p : List Nat) (i : Nat) : GA → GH → (GA → GH → M β) → M β := gOps Try.prog d call (opsAt (fAt Try.f97 p)) ((opsAt (fAt Try.f97 p)).drop i)
noncomputable def t97 {β : Type} (d : Nat) (call : Handle) (p : List Nat) (i n : Nat) : GA → GH → (GA → GH → M β) → M β := gOps Try.prog d call (opsAt (fAt Try.f97 p)) (((opsAt (fAt Try.f97 p)).drop i).take n)
theorem o97_s {β : Type} {d : Nat} {call : Handle} {p : List Nat} {a : GA} {H : GH} {K : GA → GH → M β} (i n : Nat) : o97 d call p i a H K = t97 d call p i n a H fun a H => o97 d call p (i + n) a H K := gOps_split i n
section
variable {β : Type} {call : Handle} {k : Nat} {a : GA} {K : Kont β} {K' : GA → GH → M β}
variable {d : Nat → Value} {xg : Value}
variable {p0 : Value}
variable {v1 v2 v3 v4 v5 v6 : Value}
variable {H H3 H7 : GH}
theorem n97_0 : g97 call k [] a H K = g97 call k [0] a H (hSeq (g97 call k [1]) K) := at_seq (by kernel_rfl)
theorem n97_1 : g97 call k [0] a H K = o97 0 call [0] 0 a H (K .normal) := at_region (by kernel_rfl)
theorem n97_2 : g97 call k [1] a H K = g97 call k [1,0] a H (hSeq (g97 call k [1,1]) K) := at_seq (by kernel_rfl)
theorem n97_3 : g97 call k [1,0] a H K = o97 0 call [1,0] 0 a H (K .normal) := at_region (by kernel_rfl)
theorem n97_4 : g97 call k [1,1] a H K = g97 call k [1,1,0] a H (hSeq (g97 call k [1,1,1]) K) := at_seq (by kernel_rfl)
theorem n97_5 : g97 call k [1,1,0] a H K = g97 call k [1,1,0,0] a H (hSeq (g97 call k [1,1,0,1]) K) := at_seq (by kernel_rfl)
theorem n97_6 : g97 call k [1,1,0,0] a H K = o97 0 call [1,1,0,0] 0 a H (K .normal) := at_region (by kernel_rfl)
theorem n97_7 : g97 call k [1,1,0,1] a H K = g97 call k [1,1,0,1,0] a H (hBlock 0 K) := at_block (by kernel_rfl)
theorem n97_8 : g97 call k [1,1,0,1,0] a H K = gLoop (g97 call k [1,1,0,1,0,0]) K k a H := at_loop (by kernel_rfl)
theorem n97_9 : g97 call k [1,1,0,1,0,0] a H K = g97 call k [1,1,0,1,0,0,0] a H (hSeq (g97 call k [1,1,0,1,0,0,1]) K) := at_seq (by kernel_rfl)
theorem n97_10 : g97 call k [1,1,0,1,0,0,0] a H K = o97 0 call [1,1,0,1,0,0,0] 0 a H (K .normal) := at_region (by kernel_rfl)
theorem n97_11 : g97 call k [1,1,0,1,0,0,1] a H K = g97 call k [1,1,0,1,0,0,1,0] a H (hSeq (g97 call k [1,1,0,1,0,0,1,1]) K) := at_seq (by kernel_rfl)
theorem n97_12 : g97 call k [1,1,0,1,0,0,1,0] a H K = onBool (asB (GA.eval a (.tmp 13))) (g97 call k [1,1,0,1,0,0,1,0,0] a H K) (g97 call k [1,1,0,1,0,0,1,0,1] a H K) := at_cond (by kernel_rfl)
theorem n97_13 : g97 call k [1,1,0,1,0,0,1,0,0] a H K = K .normal a H := at_skip (by kernel_rfl)
theorem n97_14 : g97 call k [1,1,0,1,0,0,1,1] a H K = g97 call k [1,1,0,1,0,0,1,1,0] a H (hSeq (g97 call k [1,1,0,1,0,0,1,1,1]) K) := at_seq (by kernel_rfl)
theorem n97_15 : g97 call k [1,1,0,1,0,0,1,1,0] a H K = g97 call k [1,1,0,1,0,0,1,1,0,0] a H (hBlock 1 K) := at_block (by kernel_rfl)
theorem n97_16 : g97 call k [1,1,0,1,0,0,1,1,0,0] a H K = g97 call k [1,1,0,1,0,0,1,1,0,0,0] a H (hSeq (g97 call k [1,1,0,1,0,0,1,1,0,0,1]) K) := at_seq (by kernel_rfl)
theorem n97_17 : g97 call k [1,1,0,1,0,0,1,1,0,0,0] a H K = o97 0 call [1,1,0,1,0,0,1,1,0,0,0] 0 a H (K .normal) := at_region (by kernel_rfl)
theorem n97_18 : g97 call k [1,1,0,1,0,0,1,0,1] a H K = K (.exit 0) a H := at_exit (by kernel_rfl)
theorem n97_19 : g97 call k [1,1,0,1,0,0,1,1,0,0,1] a H K = o97 0 call [1,1,0,1,0,0,1,1,0,0,1] 0 a H (K .normal) := at_region (by kernel_rfl)
theorem n97_20 : g97 call k [1,1,0,1,0,0,1,1,1] a H K = o97 0 call [1,1,0,1,0,0,1,1,1] 0 a H (K .normal) := at_region (by kernel_rfl)
theorem n97_21 : g97 call k [1,1,1] a H K = g97 call k [1,1,1,0] a H (hSeq (g97 call k [1,1,1,1]) K) := at_seq (by kernel_rfl)
theorem n97_22 : g97 call k [1,1,1,0] a H K = g97 call k [1,1,1,0,0] a H (hSeq (g97 call k [1,1,1,0,1]) K) := at_seq (by kernel_rfl)
theorem n97_23 : g97 call k [1,1,1,0,0] a H K = o97 0 call [1,1,1,0,0] 0 a H (K .normal) := at_region (by kernel_rfl)
theorem n97_24 : g97 call k [1,1,1,0,1] a H K = g97 call k [1,1,1,0,1,0] a H (hBlock 2 K) := at_block (by kernel_rfl)
theorem n97_25 : g97 call k [1,1,1,0,1,0] a H K = gLoop (g97 call k [1,1,1,0,1,0,0]) K k a H := at_loop (by kernel_rfl)
theorem n97_26 : g97 call k [1,1,1,0,1,0,0] a H K = g97 call k [1,1,1,0,1,0,0,0] a H (hSeq (g97 call k [1,1,1,0,1,0,0,1]) K) := at_seq (by kernel_rfl)
theorem n97_27 : g97 call k [1,1,1,0,1,0,0,0] a H K = o97 0 call [1,1,1,0,1,0,0,0] 0 a H (K .normal) := at_region (by kernel_rfl)
theorem n97_28 : g97 call k [1,1,1,0,1,0,0,1] a H K = g97 call k [1,1,1,0,1,0,0,1,0] a H (hSeq (g97 call k [1,1,1,0,1,0,0,1,1]) K) := at_seq (by kernel_rfl)
theorem n97_29 : g97 call k [1,1,1,0,1,0,0,1,0] a H K = onBool (asB (GA.eval a (.tmp 28))) (g97 call k [1,1,1,0,1,0,0,1,0,0] a H K) (g97 call k [1,1,1,0,1,0,0,1,0,1] a H K) := at_cond (by kernel_rfl)
theorem n97_30 : g97 call k [1,1,1,0,1,0,0,1,0,0] a H K = K .normal a H := at_skip (by kernel_rfl)
theorem n97_31 : g97 call k [1,1,1,0,1,0,0,1,1] a H K = g97 call k [1,1,1,0,1,0,0,1,1,0] a H (hSeq (g97 call k [1,1,1,0,1,0,0,1,1,1]) K) := at_seq (by kernel_rfl)
theorem n97_32 : g97 call k [1,1,1,0,1,0,0,1,1,0] a H K = g97 call k [1,1,1,0,1,0,0,1,1,0,0] a H (hBlock 3 K) := at_block (by kernel_rfl)
theorem n97_33 : g97 call k [1,1,1,0,1,0,0,1,1,0,0] a H K = g97 call k [1,1,1,0,1,0,0,1,1,0,0,0] a H (hSeq (g97 call k [1,1,1,0,1,0,0,1,1,0,0,1]) K) := at_seq (by kernel_rfl)
theorem n97_34 : g97 call k [1,1,1,0,1,0,0,1,1,0,0,0] a H K = o97 0 call [1,1,1,0,1,0,0,1,1,0,0,0] 0 a H (K .normal) := at_region (by kernel_rfl)
theorem n97_35 : g97 call k [1,1,1,0,1,0,0,1,1,0,0,1] a H K = g97 call k [1,1,1,0,1,0,0,1,1,0,0,1,0] a H (hSeq (g97 call k [1,1,1,0,1,0,0,1,1,0,0,1,1]) K) := at_seq (by kernel_rfl)
theorem n97_36 : g97 call k [1,1,1,0,1,0,0,1,0,1] a H K = K (.exit 2) a H := at_exit (by kernel_rfl)
theorem n97_37 : g97 call k [1,1,1,1] a H K = g97 call k [1,1,1,1,0] a H (hSeq (g97 call k [1,1,1,1,1]) K) := at_seq (by kernel_rfl)
theorem n97_38 : g97 call k [1,1,1,1,0] a H K = o97 0 call [1,1,1,1,0] 0 a H (K .normal) := at_region (by kernel_rfl)
theorem n97_39 : g97 call k [1,1,1,1,1] a H K = K .ret a H := at_ret (by kernel_rfl)
theorem n97_40 : g97 call k [1,1,1,0,1,0,0,1,1,0,0,1,0] a H K = o97 0 call [1,1,1,0,1,0,0,1,1,0,0,1,0] 0 a H (K .normal) := at_region (by kernel_rfl)
theorem n97_41 : g97 call k [1,1,1,0,1,0,0,1,1,0,0,1,1] a H K = g97 call k [1,1,1,0,1,0,0,1,1,0,0,1,1,0] a H (hSeq (g97 call k [1,1,1,0,1,0,0,1,1,0,0,1,1,1]) K) := at_seq (by kernel_rfl)
theorem n97_42 : g97 call k [1,1,1,0,1,0,0,1,1,0,0,1,1,0] a H K = o97 0 call [1,1,1,0,1,0,0,1,1,0,0,1,1,0] 0 a H (K .normal) := at_region (by kernel_rfl)
theorem n97_43 : g97 call k [1,1,1,0,1,0,0,1,1,0,0,1,1,1] a H K = onBool (asB (GA.eval a (.tmp 42))) (g97 call k [1,1,1,0,1,0,0,1,1,0,0,1,1,1,0] a H K) (g97 call k [1,1,1,0,1,0,0,1,1,0,0,1,1,1,1] a H K) := at_cond (by kernel_rfl)
theorem n97_44 : g97 call k [1,1,1,0,1,0,0,1,1,0,0,1,1,1,1] a H K = K .normal a H := at_skip (by kernel_rfl)
theorem n97_45 : g97 call k [1,1,1,0,1,0,0,1,1,0,0,1,1,1,0] a H K = o97 0 call [1,1,1,0,1,0,0,1,1,0,0,1,1,1,0] 0 a H (K .normal) := at_region (by kernel_rfl)
theorem n97_46 : g97 call k [1,1,1,0,1,0,0,1,1,1] a H K = o97 0 call [1,1,1,0,1,0,0,1,1,1] 0 a H (K .normal) := at_region (by kernel_rfl)
theorem s97_0 : o97 0 call [0] 0 (FG 48 (fun _ => undef) [(0, p0)]) H K' =
  K' (FG 48 (fun _ => undef) [(2, (.map none)), (1, (.pointer (some ⟨H.n, 0, none⟩))), (0, p0)]) (GH.push H (.row (Value.cells p0).toList 88 false)) := by kernel_rfl
theorem s97_1 : o97 0 call [1,0] 0 (FG 48 (fun _ => undef) [(2, (.map none)), (1, (.pointer (some ⟨H.n, 0, none⟩))), (0, p0)]) (GH.push H (.row (Value.cells p0).toList 88 false)) K' =
  K' (FG 48 (fun _ => undef) [(3, (.map (some (GH.push H (.row (Value.cells p0).toList 88 false)).n))), (8, (.map (some (GH.push H (.row (Value.cells p0).toList 88 false)).n))), (2, (.map none)), (1, (.pointer (some ⟨H.n, 0, none⟩))), (0, p0)]) (GH.push (GH.push H (.row (Value.cells p0).toList 88 false)) (.map [] 0)) := by kernel_rfl
theorem s97_2 : o97 0 call [1,1,0,0] 0 (FG 48 (fun _ => undef) [(3, (.map (some (GH.push H (.row (Value.cells p0).toList 88 false)).n))), (8, (.map (some (GH.push H (.row (Value.cells p0).toList 88 false)).n))), (2, (.map none)), (1, (.pointer (some ⟨H.n, 0, none⟩))), (0, p0)]) (GH.push (GH.push H (.row (Value.cells p0).toList 88 false)) (.map [] 0)) K' =
  onV (gLoad Try.prog 85 (.pointer (some ⟨H.n, 0, none⟩)) (GH.push (GH.push H (.row (Value.cells p0).toList 88 false)) (.map [] 0))) fun v1 =>
  onV (oLen Try.prog 85 v1) fun v2 =>
  K' (FG 48 (fun _ => undef) [(12, (.int .i64 0)), (11, v2), (10, v1), (9, (.pointer (some ⟨H.n, 0, none⟩))), (3, (.map (some (GH.push H (.row (Value.cells p0).toList 88 false)).n))), (8, (.map (some (GH.push H (.row (Value.cells p0).toList 88 false)).n))), (2, (.map none)), (1, (.pointer (some ⟨H.n, 0, none⟩))), (0, p0)]) (GH.push (GH.push H (.row (Value.cells p0).toList 88 false)) (.map [] 0)) := by kernel_rfl
theorem s97_3 : o97 0 call [1,1,0,1,0,0,0] 0 (FF 48 d) H K' =
  onV ((oBin Try.prog .lss 3 (d 12) (d 11)).filter closed) fun v1 =>
  K' (FG 48 d [(13, v1)]) H := by kernel_rfl
theorem s97_4 : o97 0 call [1,1,0,1,0,0,1,1,0,0,0] 0 (FG 48 d [(13, v1)]) H K' =
  onV (oIndexAddr Try.prog 85 (d 10) (d 12)) fun v2 =>
  onV (gLoad Try.prog 93 v2 H) fun v3 =>
  onH (gStore Try.prog 93 (.pointer (some ⟨H.n, 0, none⟩)) v3 (GH.push H (.row [(.int .i64 0), (.int .i64 0)] 93 false))) fun H4 =>
  K' (FG 48 d [(5, (.pointer (some ⟨H.n, 0, none⟩))), (15, v3), (14, v2), (13, v1)]) H4 := by kernel_rfl
theorem s97_5 : o97 0 call [1,1,0,1,0,0,1,1,0,0,1] 0 (FF 48 d) H K' =
  onV (oFieldAddr Try.prog 93 (d 5) 0) fun v1 =>
  onV (gLoad Try.prog 3 v1 H) fun v2 =>
  onV (gLookup Try.prog 186 (d 3) v2 false H) fun v3 =>
  onV (oFieldAddr Try.prog 93 (d 5) 1) fun v4 =>
  onV (gLoad Try.prog 3 v4 H) fun v5 =>
  onV ((oBin Try.prog .add 3 v3 v5).filter closed) fun v6 =>
  onH (gMapUpdate Try.prog 186 (d 3) v2 v6 H) fun H7 =>
  K' (FG 48 d [(22, v6), (21, v5), (20, v4), (19, v3), (18, v2), (17, v1), (16, (d 3))]) H7 := by kernel_rfl
theorem s97_6 : o97 0 call [1,1,0,1,0,0,1,1,1] 0 (FG 48 d [(22, v6), (21, v5), (20, v4), (19, v3), (18, v2), (17, v1), (16, (d 3))]) H7 K' =
  onV ((oBin Try.prog .add 3 (d 12) (.int .i64 1)).filter closed) fun v8 =>
  K' (FG 48 d [(12, v8), (23, v8), (22, v6), (21, v5), (20, v4), (19, v3), (18, v2), (17, v1), (16, (d 3))]) H7 := by kernel_rfl
theorem s97_7 : o97 0 call [1,1,1,0,0] 0 (FF 48 d) H K' =
  onV (oFieldAddr Try.prog 88 (d 1) 1) fun v1 =>
  onV (gLoad Try.prog 86 v1 H) fun v2 =>
  onV (oLen Try.prog 86 v2) fun v3 =>
  K' (FG 48 d [(27, (.int .i64 0)), (26, v3), (25, v2), (24, v1)]) H := by kernel_rfl
theorem s97_8 : o97 0 call [1,1,1,0,1,0,0,0] 0 (FF 48 d) H K' =
  onV ((oBin Try.prog .lss 3 (d 27) (d 26)).filter closed) fun v1 =>
  K' (FG 48 d [(28, v1)]) H := by kernel_rfl
theorem s97_9 : o97 0 call [1,1,1,0,1,0,0,1,1,0,0,0] 0 (FG 48 d [(28, v1)]) H K' =
  onV (oIndexAddr Try.prog 86 (d 25) (d 27)) fun v2 =>
  onV (gLoad Try.prog 91 v2 H) fun v3 =>
  onH (gStore Try.prog 91 (.pointer (some ⟨H.n, 0, none⟩)) v3 (GH.push H (.row [(.int .i64 0), (.int .i64 0), (.int .i64 0)] 91 false))) fun H4 =>
  K' (FG 48 d [(7, (.pointer (some ⟨H.n, 0, none⟩))), (30, v3), (29, v2), (28, v1)]) H4 := by kernel_rfl
theorem s97_10 : o97 0 call [1,1,1,1,0] 0 (FG 48 d [(28, v1)]) H K' =
  K' (FG 48 d [(2, (d 3)), (47, (d 3)), (28, v1)]) H := by kernel_rfl
theorem s97_11 : o97 0 call [1,1,1,0,1,0,0,1,1,0,0,1,0] 0 (FF 48 d) H K' =
  onV (oFieldAddr Try.prog 91 (d 7) 1) fun v1 =>
  onV (gLoad Try.prog 3 v1 H) fun v2 =>
  onV (gLookup Try.prog 186 (d 3) v2 false H) fun v3 =>
  onV (oFieldAddr Try.prog 91 (d 7) 2) fun v4 =>
  onV (gLoad Try.prog 3 v4 H) fun v5 =>
  onV ((oBin Try.prog .sub 3 v3 v5).filter closed) fun v6 =>
  onH (gMapUpdate Try.prog 186 (d 3) v2 v6 H) fun H7 =>
  K' (FG 48 d [(37, v6), (36, v5), (35, v4), (34, v3), (33, v2), (32, v1), (31, (d 3))]) H7 := by kernel_rfl
theorem s97_12 : o97 0 call [1,1,1,0,1,0,0,1,1,0,0,1,1,0] 0 (FG 48 d [(37, v6), (36, v5), (35, v4), (34, v3), (33, v2), (32, v1), (31, (d 3))]) H7 K' =
  onV (oFieldAddr Try.prog 91 (d 7) 1) fun v8 =>
  onV (gLoad Try.prog 3 v8 H7) fun v9 =>
  onV (gLookup Try.prog 186 (d 3) v9 false H7) fun v10 =>
  onV ((oBin Try.prog .eql 3 v10 (.int .i64 0)).filter closed) fun v11 =>
  K' (FG 48 d [(42, v11), (41, v10), (40, v9), (39, v8), (38, (d 3)), (37, v6), (36, v5), (35, v4), (34, v3), (33, v2), (32, v1), (31, (d 3))]) H7 := by kernel_rfl
theorem s97_13 : o97 0 call [1,1,1,0,1,0,0,1,1,0,0,1,1,1,0] 0 (FF 48 d) H K' =
  onV (oFieldAddr Try.prog 91 (d 7) 1) fun v1 =>
  onV (gLoad Try.prog 3 v1 H) fun v2 =>
  onH (gDelete Try.prog 186 (d 3) v2 H) fun H3 =>
  K' (FG 48 d [(45, v2), (44, v1), (43, (d 3))]) H3 := by kernel_rfl
theorem s97_14 : o97 0 call [1,1,1,0,1,0,0,1,1,1] 0 (FG 48 d [(45, v2), (44, v1), (43, (d 3))]) H3 K' =
  onV ((oBin Try.prog .add 3 (d 27) (.int .i64 1)).filter closed) fun v4 =>
  K' (FG 48 d [(27, v4), (46, v4), (45, v2), (44, v1), (43, (d 3))]) H3 := by kernel_rfl
theorem s97_15 : o97 0 call [1,1,1,0,1,0,0,1,1,1] 0 (FF 48 d) H K' =
  onV ((oBin Try.prog .add 3 (d 27) (.int .i64 1)).filter closed) fun v1 =>
  K' (FG 48 d [(27, v1), (46, v1)]) H := by kernel_rfl
def f97_l8_P (ag : AG) (sg : Sg4) : Prop := ∀ (d : Nat → Value) (H : GH), ag (FF 48 d) H = sg (d 3) (d 25) (d 26) (d 27) H
theorem f97_l8_at {ag : AG} {sg : Sg4} (h : f97_l8_P ag sg) : ag (FF 48 d) H = sg (d 3) (d 25) (d 26) (d 27) H := h d H
def f97_l3_P (ag : AG) (sg : Sg5) : Prop := ∀ (d : Nat → Value) (H : GH), ag (FF 48 d) H = sg (d 1) (d 3) (d 10) (d 11) (d 12) H
theorem f97_l3_at {ag : AG} {sg : Sg5} (h : f97_l3_P ag sg) : ag (FF 48 d) H = sg (d 1) (d 3) (d 10) (d 11) (d 12) H := h d H
noncomputable def f97_r5 (call : Handle) (k : Nat) (sg_l3 : Sg5) (x1 x3 x5 x10 x11 x12 : Value) (H : GH) : M (Value × GH) :=
  onV (oFieldAddr Try.prog 93 x5 0) fun v1 =>
  onV (gLoad Try.prog 3 v1 H) fun v2 =>
  onV (gLookup Try.prog 186 x3 v2 false H) fun v3 =>
  onV (oFieldAddr Try.prog 93 x5 1) fun v4 =>
  onV (gLoad Try.prog 3 v4 H) fun v5 =>
  onV ((oBin Try.prog .add 3 v3 v5).filter closed) fun v6 =>
  onH (gMapUpdate Try.prog 186 x3 v2 v6 H) fun H7 =>
  onV ((oBin Try.prog .add 3 x12 (.int .i64 1)).filter closed) fun v8 =>
  (sg_l3 x1 x3 x10 x11 v8 H7)
theorem f97_r5_eq (call : Handle) (k : Nat) (ag_l3 : AG) (sg_l3 : Sg5) (h_l3 : f97_l3_P ag_l3 sg_l3) : g97 call k [1,1,0,1,0,0,1,1,0,0,1] (FF 48 d) H (hBlock 1 (hSeq (g97 call k [1,1,0,1,0,0,1,1,1]) (hLoop ag_l3 (hBlock 0 (hSeq (g97 call k [1,1,1]) (hFin Try.prog Try.f97)))))) = f97_r5 call k sg_l3 (d 1) (d 3) (d 5) (d 10) (d 11) (d 12) H := by
  unfold f97_r5
  rw [n97_19]
  rw [s97_5]
  refine onV_c fun v1 => ?_
  refine onV_c fun v2 => ?_
  refine onV_c fun v3 => ?_
  refine onV_c fun v4 => ?_
  refine onV_c fun v5 => ?_
  refine onV_c fun v6 => ?_
  refine onH_c fun H7 => ?_
  rw [hBlock_n]
  rw [hSeq_n]
  rw [n97_20]
  rw [s97_6]
  refine onV_c fun v8 => ?_
  rw [hLoop_n]
  generalize e : (FG 48 d [(12, v8), (23, v8), (22, v6), (21, v5), (20, v4), (19, v3), (18, v2), (17, v1), (16, (d 3))]) = a
  rw [show a = (FF 48 (gf a)) from (FF_gf (by subst e; exact FG_len)).symm]
  exact (f97_l3_at (d := gf a) h_l3).trans (by subst e; kernel_rfl)
noncomputable def f97_r12 (call : Handle) (k : Nat) (sg_l8 : Sg4) (x3 x7 x25 x26 x27 : Value) (H : GH) : M (Value × GH) :=
  onV (oFieldAddr Try.prog 91 x7 1) fun v1 =>
  onV (gLoad Try.prog 3 v1 H) fun v2 =>
  onH (gDelete Try.prog 186 x3 v2 H) fun H3 =>
  onV ((oBin Try.prog .add 3 x27 (.int .i64 1)).filter closed) fun v4 =>
  (sg_l8 x3 x25 x26 v4 H3)
theorem f97_r12_eq (call : Handle) (k : Nat) (ag_l8 : AG) (sg_l8 : Sg4) (h_l8 : f97_l8_P ag_l8 sg_l8) : g97 call k [1,1,1,0,1,0,0,1,1,0,0,1,1,1,0] (FF 48 d) H (hBlock 3 (hSeq (g97 call k [1,1,1,0,1,0,0,1,1,1]) (hLoop ag_l8 (hBlock 2 (hSeq (g97 call k [1,1,1,1]) (hFin Try.prog Try.f97)))))) = f97_r12 call k sg_l8 (d 3) (d 7) (d 25) (d 26) (d 27) H := by
  unfold f97_r12
  rw [n97_45]
  rw [s97_13]
  refine onV_c fun v1 => ?_
  refine onV_c fun v2 => ?_
  refine onH_c fun H3 => ?_
  rw [hBlock_n]
  rw [hSeq_n]
  rw [n97_46]
  rw [s97_14]
  refine onV_c fun v4 => ?_
  rw [hLoop_n]
  generalize e : (FG 48 d [(27, v4), (46, v4), (45, v2), (44, v1), (43, (d 3))]) = a
  rw [show a = (FF 48 (gf a)) from (FF_gf (by subst e; exact FG_len)).symm]
  exact (f97_l8_at (d := gf a) h_l8).trans (by subst e; kernel_rfl)
noncomputable def f97_r13 (call : Handle) (k : Nat) (sg_l8 : Sg4) (x3 x25 x26 x27 : Value) (H : GH) : M (Value × GH) :=
  onV ((oBin Try.prog .add 3 x27 (.int .i64 1)).filter closed) fun v1 =>
  (sg_l8 x3 x25 x26 v1 H)
theorem f97_r13_eq (call : Handle) (k : Nat) (ag_l8 : AG) (sg_l8 : Sg4) (h_l8 : f97_l8_P ag_l8 sg_l8) : g97 call k [1,1,1,0,1,0,0,1,1,1] (FF 48 d) H (hLoop ag_l8 (hBlock 2 (hSeq (g97 call k [1,1,1,1]) (hFin Try.prog Try.f97)))) = f97_r13 call k sg_l8 (d 3) (d 25) (d 26) (d 27) H := by
  unfold f97_r13
  rw [n97_46]
  rw [s97_15]
  refine onV_c fun v1 => ?_
  rw [hLoop_n]
  generalize e : (FG 48 d [(27, v1), (46, v1)]) = a
  rw [show a = (FF 48 (gf a)) from (FF_gf (by subst e; exact FG_len)).symm]
  exact (f97_l8_at (d := gf a) h_l8).trans (by subst e; kernel_rfl)
noncomputable def f97_r10 (call : Handle) (k : Nat) (sg_l8 : Sg4) (x3 x7 x25 x26 x27 : Value) (H : GH) : M (Value × GH) :=
  onV (oFieldAddr Try.prog 91 x7 1) fun v1 =>
  onV (gLoad Try.prog 3 v1 H) fun v2 =>
  onV (gLookup Try.prog 186 x3 v2 false H) fun v3 =>
  onV (oFieldAddr Try.prog 91 x7 2) fun v4 =>
  onV (gLoad Try.prog 3 v4 H) fun v5 =>
  onV ((oBin Try.prog .sub 3 v3 v5).filter closed) fun v6 =>
  onH (gMapUpdate Try.prog 186 x3 v2 v6 H) fun H7 =>
  onV (oFieldAddr Try.prog 91 x7 1) fun v8 =>
  onV (gLoad Try.prog 3 v8 H7) fun v9 =>
  onV (gLookup Try.prog 186 x3 v9 false H7) fun v10 =>
  onV ((oBin Try.prog .eql 3 v10 (.int .i64 0)).filter closed) fun v11 =>
  onBool (asB v11)
  ((f97_r12 call k (sg_l8) x3 x7 x25 x26 x27 H7))
  ((f97_r13 call k (sg_l8) x3 x25 x26 x27 H7))
theorem f97_r10_eq (call : Handle) (k : Nat) (ag_l8 : AG) (sg_l8 : Sg4) (h_l8 : f97_l8_P ag_l8 sg_l8) : g97 call k [1,1,1,0,1,0,0,1,1,0,0,1,0] (FF 48 d) H (hSeq (g97 call k [1,1,1,0,1,0,0,1,1,0,0,1,1]) (hBlock 3 (hSeq (g97 call k [1,1,1,0,1,0,0,1,1,1]) (hLoop ag_l8 (hBlock 2 (hSeq (g97 call k [1,1,1,1]) (hFin Try.prog Try.f97))))))) = f97_r10 call k sg_l8 (d 3) (d 7) (d 25) (d 26) (d 27) H := by
  unfold f97_r10
  rw [n97_40]
  rw [s97_11]
  refine onV_c fun v1 => ?_
  refine onV_c fun v2 => ?_
  refine onV_c fun v3 => ?_
  refine onV_c fun v4 => ?_
  refine onV_c fun v5 => ?_
  refine onV_c fun v6 => ?_
  refine onH_c fun H7 => ?_
  rw [hSeq_n]
  rw [n97_41]
  rw [n97_42]
  rw [s97_12]
  refine onV_c fun v8 => ?_
  refine onV_c fun v9 => ?_
  refine onV_c fun v10 => ?_
  refine onV_c fun v11 => ?_
  rw [hSeq_n]
  rw [n97_43]
  refine onBool_cc (by kernel_rfl) ?_ ?_
  · generalize e : (FG 48 d [(42, v11), (41, v10), (40, v9), (39, v8), (38, (d 3)), (37, v6), (36, v5), (35, v4), (34, v3), (33, v2), (32, v1), (31, (d 3))]) = a
    rw [show a = (FF 48 (gf a)) from (FF_gf (by subst e; exact FG_len)).symm]
    exact (f97_r12_eq (d := gf a) call k ag_l8 sg_l8 h_l8).trans (by subst e; kernel_rfl)
  · rw [n97_44]
    rw [hBlock_n]
    rw [hSeq_n]
    generalize e : (FG 48 d [(42, v11), (41, v10), (40, v9), (39, v8), (38, (d 3)), (37, v6), (36, v5), (35, v4), (34, v3), (33, v2), (32, v1), (31, (d 3))]) = a
    rw [show a = (FF 48 (gf a)) from (FF_gf (by subst e; exact FG_len)).symm]
    exact (f97_r13_eq (d := gf a) call k ag_l8 sg_l8 h_l8).trans (by subst e; kernel_rfl)
noncomputable def f97_l8b (call : Handle) (k : Nat) (sg_l8 : Sg4) (x3 x25 x26 x27 : Value) (H : GH) : M (Value × GH) :=
  onV ((oBin Try.prog .lss 3 x27 x26).filter closed) fun v1 =>
  onBool (asB v1)
  (onV (oIndexAddr Try.prog 86 x25 x27) fun v2 =>
  onV (gLoad Try.prog 91 v2 H) fun v3 =>
  onH (gStore Try.prog 91 (.pointer (some ⟨H.n, 0, none⟩)) v3 (GH.push H (.row [(.int .i64 0), (.int .i64 0), (.int .i64 0)] 91 false))) fun H4 =>
  (f97_r10 call k (sg_l8) x3 (.pointer (some ⟨H.n, 0, none⟩)) x25 x26 x27 H4))
  (some [(x3, H)])
theorem f97_l8b_eq (call : Handle) (k : Nat) (ag_l8 : AG) (sg_l8 : Sg4) (h_l8 : f97_l8_P ag_l8 sg_l8) : g97 call k [1,1,1,0,1,0,0] (FF 48 d) H (hLoop ag_l8 (hBlock 2 (hSeq (g97 call k [1,1,1,1]) (hFin Try.prog Try.f97)))) = f97_l8b call k sg_l8 (d 3) (d 25) (d 26) (d 27) H := by
  unfold f97_l8b
  rw [n97_26]
  rw [n97_27]
  rw [s97_8]
  refine onV_c fun v1 => ?_
  rw [hSeq_n]
  rw [n97_28]
  rw [n97_29]
  refine onBool_cc (by kernel_rfl) ?_ ?_
  · rw [n97_30]
    rw [hSeq_n]
    rw [n97_31]
    rw [n97_32]
    rw [n97_33]
    rw [n97_34]
    rw [s97_9]
    refine onV_c fun v2 => ?_
    refine onV_c fun v3 => ?_
    refine onH_c fun H4 => ?_
    rw [hSeq_n]
    rw [n97_35]
    generalize e : (FG 48 d [(7, (.pointer (some ⟨H.n, 0, none⟩))), (30, v3), (29, v2), (28, v1)]) = a
    rw [show a = (FF 48 (gf a)) from (FF_gf (by subst e; exact FG_len)).symm]
    exact (f97_r10_eq (d := gf a) call k ag_l8 sg_l8 h_l8).trans (by subst e; kernel_rfl)
  · rw [n97_36]
    rw [hSeq_e, hLoop_e, hBlock_hit]
    rw [hSeq_n]
    rw [n97_37]
    rw [n97_38]
    rw [s97_10]
    rw [hSeq_n]
    rw [n97_39]
    kernel_rfl
noncomputable def f97_l8 (call : Handle) (k : Nat) : Nat → Value → Value → Value → Value → GH → M (Value × GH)
  | 0, _, _, _, _, _ => none
  | r + 1, x3, x25, x26, x27, H => f97_l8b call k (f97_l8 call k r) x3 x25 x26 x27 H
theorem f97_l8_eq (call : Handle) (k : Nat) : ∀ (r : Nat), f97_l8_P (gLoop (g97 call k [1,1,1,0,1,0,0]) (hBlock 2 (hSeq (g97 call k [1,1,1,1]) (hFin Try.prog Try.f97))) r) (f97_l8 call k r) := by
  intro r
  induction r with
  | zero => unfold f97_l8_P; intros; rfl
  | succ r ih => unfold f97_l8_P; intros; exact f97_l8b_eq call k _ _ ih
noncomputable def f97_r7 (call : Handle) (k : Nat) (x1 x3 : Value) (H : GH) : M (Value × GH) :=
  onV (oFieldAddr Try.prog 88 x1 1) fun v1 =>
  onV (gLoad Try.prog 86 v1 H) fun v2 =>
  onV (oLen Try.prog 86 v2) fun v3 =>
  (f97_l8 call k k x3 v2 v3 (.int .i64 0) H)
theorem f97_r7_eq (call : Handle) (k : Nat) : g97 call k [1,1,1] (FF 48 d) H (hFin Try.prog Try.f97) = f97_r7 call k (d 1) (d 3) H := by
  unfold f97_r7
  rw [n97_21]
  rw [n97_22]
  rw [n97_23]
  rw [s97_7]
  refine onV_c fun v1 => ?_
  refine onV_c fun v2 => ?_
  refine onV_c fun v3 => ?_
  rw [hSeq_n]
  rw [n97_24]
  rw [n97_25]
  generalize e : (FG 48 d [(27, (.int .i64 0)), (26, v3), (25, v2), (24, v1)]) = a
  rw [show a = (FF 48 (gf a)) from (FF_gf (by subst e; exact FG_len)).symm]
  exact (f97_l8_at (d := gf a) (f97_l8_eq call k k)).trans (by subst e; kernel_rfl)
noncomputable def f97_l3b (call : Handle) (k : Nat) (sg_l3 : Sg5) (x1 x3 x10 x11 x12 : Value) (H : GH) : M (Value × GH) :=
  onV ((oBin Try.prog .lss 3 x12 x11).filter closed) fun v1 =>
  onBool (asB v1)
  (onV (oIndexAddr Try.prog 85 x10 x12) fun v2 =>
  onV (gLoad Try.prog 93 v2 H) fun v3 =>
  onH (gStore Try.prog 93 (.pointer (some ⟨H.n, 0, none⟩)) v3 (GH.push H (.row [(.int .i64 0), (.int .i64 0)] 93 false))) fun H4 =>
  (f97_r5 call k (sg_l3) x1 x3 (.pointer (some ⟨H.n, 0, none⟩)) x10 x11 x12 H4))
  ((f97_r7 call k x1 x3 H))
theorem f97_l3b_eq (call : Handle) (k : Nat) (ag_l3 : AG) (sg_l3 : Sg5) (h_l3 : f97_l3_P ag_l3 sg_l3) : g97 call k [1,1,0,1,0,0] (FF 48 d) H (hLoop ag_l3 (hBlock 0 (hSeq (g97 call k [1,1,1]) (hFin Try.prog Try.f97)))) = f97_l3b call k sg_l3 (d 1) (d 3) (d 10) (d 11) (d 12) H := by
  unfold f97_l3b
  rw [n97_9]
  rw [n97_10]
  rw [s97_3]
  refine onV_c fun v1 => ?_
  rw [hSeq_n]
  rw [n97_11]
  rw [n97_12]
  refine onBool_cc (by kernel_rfl) ?_ ?_
  · rw [n97_13]
    rw [hSeq_n]
    rw [n97_14]
    rw [n97_15]
    rw [n97_16]
    rw [n97_17]
    rw [s97_4]
    refine onV_c fun v2 => ?_
    refine onV_c fun v3 => ?_
    refine onH_c fun H4 => ?_
    rw [hSeq_n]
    generalize e : (FG 48 d [(5, (.pointer (some ⟨H.n, 0, none⟩))), (15, v3), (14, v2), (13, v1)]) = a
    rw [show a = (FF 48 (gf a)) from (FF_gf (by subst e; exact FG_len)).symm]
    exact (f97_r5_eq (d := gf a) call k ag_l3 sg_l3 h_l3).trans (by subst e; kernel_rfl)
  · rw [n97_18]
    rw [hSeq_e, hLoop_e, hBlock_hit]
    rw [hSeq_n]
    generalize e : (FG 48 d [(13, v1)]) = a
    rw [show a = (FF 48 (gf a)) from (FF_gf (by subst e; exact FG_len)).symm]
    exact (f97_r7_eq (d := gf a) call k).trans (by subst e; kernel_rfl)
noncomputable def f97_l3 (call : Handle) (k : Nat) : Nat → Value → Value → Value → Value → Value → GH → M (Value × GH)
  | 0, _, _, _, _, _, _ => none
  | r + 1, x1, x3, x10, x11, x12, H => f97_l3b call k (f97_l3 call k r) x1 x3 x10 x11 x12 H
theorem f97_l3_eq (call : Handle) (k : Nat) : ∀ (r : Nat), f97_l3_P (gLoop (g97 call k [1,1,0,1,0,0]) (hBlock 0 (hSeq (g97 call k [1,1,1]) (hFin Try.prog Try.f97))) r) (f97_l3 call k r) := by
  intro r
  induction r with
  | zero => unfold f97_l3_P; intros; rfl
  | succ r ih => unfold f97_l3_P; intros; exact f97_l3b_eq call k _ _ ih
noncomputable def f97_sh (call : Handle) (k : Nat) (p0 : Value) (H : GH) : M (Value × GH) :=
  onV (gLoad Try.prog 85 (.pointer (some ⟨H.n, 0, none⟩)) (GH.push (GH.push H (.row (Value.cells p0).toList 88 false)) (.map [] 0))) fun v1 =>
  onV (oLen Try.prog 85 v1) fun v2 =>
  (f97_l3 call k k (.pointer (some ⟨H.n, 0, none⟩)) (.map (some (GH.push H (.row (Value.cells p0).toList 88 false)).n)) v1 v2 (.int .i64 0) (GH.push (GH.push H (.row (Value.cells p0).toList 88 false)) (.map [] 0)))
theorem f97_run (call : Handle) (k : Nat) (p0 : Value) (H : GH) : g97 call k [] (FG 48 (fun _ => undef) [(0, p0)]) H (hFin Try.prog Try.f97) = f97_sh call k p0 H := by
  unfold f97_sh
  rw [n97_0]
  rw [n97_1]
  rw [s97_0]
  rw [hSeq_n]
  rw [n97_2]
  rw [n97_3]
  rw [s97_1]
  rw [hSeq_n]
  rw [n97_4]
  rw [n97_5]
  rw [n97_6]
  rw [s97_2]
  refine onV_c fun v1 => ?_
  refine onV_c fun v2 => ?_
  rw [hSeq_n]
  rw [n97_7]
  rw [n97_8]
  generalize e : (FG 48 (fun _ => undef) [(12, (.int .i64 0)), (11, v2), (10, v1), (9, (.pointer (some ⟨H.n, 0, none⟩))), (3, (.map (some (GH.push H (.row (Value.cells p0).toList 88 false)).n))), (8, (.map (some (GH.push H (.row (Value.cells p0).toList 88 false)).n))), (2, (.map none)), (1, (.pointer (some ⟨H.n, 0, none⟩))), (0, p0)]) = a
  rw [show a = (FF 48 (gf a)) from (FF_gf (by subst e; exact FG_len)).symm]
  exact (f97_l3_at (d := gf a) (f97_l3_eq call k k)).trans (by subst e; kernel_rfl)
theorem f97_eq (call : Handle) (k : Nat) (p0 : Value) (H : GH) : gFunc Try.prog call k Try.f97 [p0] H = f97_sh call k p0 H :=
  Eq.trans (by kernel_rfl) (f97_run call k p0 H)
end
end Go.Proofs.Ythicilkmjamefaa
