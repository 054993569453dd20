/- PRINTED by sh.py: shallow forms of functions of the program, each proved equal to what the ghost machine makes of its code. -/
import Derived.Test.YtdhadannleldiaaDoorGkTop
import Derived.Test.YtdhadannleldiaaDoorProg
namespace Go.Proofs.YtdhadannleldiaaDoor
open Go.Gh
set_option linter.unusedVariables false
set_option linter.unusedSimpArgs false
set_option maxRecDepth 100000
noncomputable def g25 {β : Type} (call : Handle) (k : Nat) (p : List Nat) : GA → GH → Kont β → M β := gCode Tryd.prog call k (fAt Tryd.f25 p)
noncomputable def o25 {β : Type} (d : Nat) (call : Handle) (p : List Nat) (i : Nat) : GA → GH → (GA → GH → M β) → M β := gOps Tryd.prog d call (opsAt (fAt Tryd.f25 p)) i ((opsAt (fAt Tryd.f25 p)).drop i)
noncomputable def t25 {β : Type} (d : Nat) (call : Handle) (p : List Nat) (i n : Nat) : GA → GH → (GA → GH → M β) → M β := gOps Tryd.prog d call (opsAt (fAt Tryd.f25 p)) i (((opsAt (fAt Tryd.f25 p)).drop i).take n)
theorem o25_s {β : Type} {d : Nat} {call : Handle} {p : List Nat} {a : GA} {H : GH} {K : GA → GH → M β} (i n : Nat) : o25 d call p i a H K = t25 d call p i n a H fun a H => o25 d call p (i + n) a H K := gOps_split i n
section
variable {β : Type} {call : Handle} {k : Nat} {a : GA} {K : Kont β} {K' : GA → GH → M β}
variable {d : Nat → Value} {xg : Value}
variable {p0 : Value}
variable {v1 v2 v3 v4 v5 v6 : Value}
variable {H H2 H4 H7 : GH}
theorem n25_0 : g25 call k [] a H K = g25 call k [0] a H (hSeq (g25 call k [1]) K) := at_seq (by kernel_rfl)
theorem n25_1 : g25 call k [0] a H K = o25 0 call [0] 0 a H (K .normal) := at_region (by kernel_rfl)
theorem n25_2 : g25 call k [1] a H K = g25 call k [1,0] a H (hSeq (g25 call k [1,1]) K) := at_seq (by kernel_rfl)
theorem n25_3 : g25 call k [1,0] a H K = o25 2 call [1,0] 0 a H (K .normal) := at_region (by kernel_rfl)
theorem n25_4 : g25 call k [1,1] a H K = g25 call k [1,1,0] a H (hSeq (g25 call k [1,1,1]) K) := at_seq (by kernel_rfl)
theorem n25_5 : g25 call k [1,1,0] a H K = o25 0 call [1,1,0] 0 a H (K .normal) := at_region (by kernel_rfl)
theorem n25_6 : g25 call k [1,1,1] a H K = g25 call k [1,1,1,0] a H (hSeq (g25 call k [1,1,1,1]) K) := at_seq (by kernel_rfl)
theorem n25_7 : g25 call k [1,1,1,0] a H K = o25 0 call [1,1,1,0] 0 a H (K .normal) := at_region (by kernel_rfl)
theorem n25_8 : g25 call k [1,1,1,1] a H K = g25 call k [1,1,1,1,0] a H (hSeq (g25 call k [1,1,1,1,1]) K) := at_seq (by kernel_rfl)
theorem n25_9 : g25 call k [1,1,1,1,0] a H K = g25 call k [1,1,1,1,0,0] a H (hSeq (g25 call k [1,1,1,1,0,1]) K) := at_seq (by kernel_rfl)
theorem n25_10 : g25 call k [1,1,1,1,0,0] a H K = o25 0 call [1,1,1,1,0,0] 0 a H (K .normal) := at_region (by kernel_rfl)
theorem n25_11 : g25 call k [1,1,1,1,0,1] a H K = onBool (asB (GA.eval a (.tmp 17))) (g25 call k [1,1,1,1,0,1,0] a H K) (g25 call k [1,1,1,1,0,1,1] a H K) := at_cond (by kernel_rfl)
theorem n25_12 : g25 call k [1,1,1,1,0,1,0] a H K = g25 call k [1,1,1,1,0,1,0,0] a H (hSeq (g25 call k [1,1,1,1,0,1,0,1]) K) := at_seq (by kernel_rfl)
theorem n25_13 : g25 call k [1,1,1,1,0,1,1] a H K = K .normal a H := at_skip (by kernel_rfl)
theorem n25_14 : g25 call k [1,1,1,1,0,1,0,0] a H K = o25 0 call [1,1,1,1,0,1,0,0] 0 a H (K .normal) := at_region (by kernel_rfl)
theorem n25_15 : g25 call k [1,1,1,1,1] a H K = g25 call k [1,1,1,1,1,0] a H (hSeq (g25 call k [1,1,1,1,1,1]) K) := at_seq (by kernel_rfl)
theorem n25_16 : g25 call k [1,1,1,1,1,0] a H K = g25 call k [1,1,1,1,1,0,0] a H (hSeq (g25 call k [1,1,1,1,1,0,1]) K) := at_seq (by kernel_rfl)
theorem n25_17 : g25 call k [1,1,1,1,1,0,0] a H K = o25 0 call [1,1,1,1,1,0,0] 0 a H (K .normal) := at_region (by kernel_rfl)
theorem n25_18 : g25 call k [1,1,1,1,1,0,1] a H K = onBool (asB (GA.eval a (.tmp 26))) (g25 call k [1,1,1,1,1,0,1,0] a H K) (g25 call k [1,1,1,1,1,0,1,1] a H K) := at_cond (by kernel_rfl)
theorem n25_19 : g25 call k [1,1,1,1,1,0,1,0] a H K = g25 call k [1,1,1,1,1,0,1,0,0] a H (hSeq (g25 call k [1,1,1,1,1,0,1,0,1]) K) := at_seq (by kernel_rfl)
theorem n25_20 : g25 call k [1,1,1,1,1,0,1,0,0] a H K = o25 0 call [1,1,1,1,1,0,1,0,0] 0 a H (K .normal) := at_region (by kernel_rfl)
theorem n25_21 : g25 call k [1,1,1,1,1,0,1,1] a H K = K .normal a H := at_skip (by kernel_rfl)
theorem n25_22 : g25 call k [1,1,1,1,0,1,0,1] a H K = o25 0 call [1,1,1,1,0,1,0,1] 0 a H (K .normal) := at_region (by kernel_rfl)
theorem n25_23 : g25 call k [1,1,1,1,1,0,1,0,1] a H K = o25 0 call [1,1,1,1,1,0,1,0,1] 0 a H (K .normal) := at_region (by kernel_rfl)
theorem n25_24 : g25 call k [1,1,1,1,1,1] a H K = g25 call k [1,1,1,1,1,1,0] a H (hSeq (g25 call k [1,1,1,1,1,1,1]) K) := at_seq (by kernel_rfl)
theorem n25_25 : g25 call k [1,1,1,1,1,1,0] a H K = g25 call k [1,1,1,1,1,1,0,0] a H (hSeq (g25 call k [1,1,1,1,1,1,0,1]) K) := at_seq (by kernel_rfl)
theorem n25_26 : g25 call k [1,1,1,1,1,1,0,0] a H K = o25 0 call [1,1,1,1,1,1,0,0] 0 a H (K .normal) := at_region (by kernel_rfl)
theorem n25_27 : g25 call k [1,1,1,1,1,1,0,1] a H K = onBool (asB (GA.eval a (.tmp 37))) (g25 call k [1,1,1,1,1,1,0,1,0] a H K) (g25 call k [1,1,1,1,1,1,0,1,1] a H K) := at_cond (by kernel_rfl)
theorem n25_28 : g25 call k [1,1,1,1,1,1,0,1,0] a H K = g25 call k [1,1,1,1,1,1,0,1,0,0] a H (hSeq (g25 call k [1,1,1,1,1,1,0,1,0,1]) K) := at_seq (by kernel_rfl)
theorem n25_29 : g25 call k [1,1,1,1,1,1,0,1,1] a H K = K .normal a H := at_skip (by kernel_rfl)
theorem n25_30 : g25 call k [1,1,1,1,1,1,0,1,0,0] a H K = o25 0 call [1,1,1,1,1,1,0,1,0,0] 0 a H (K .normal) := at_region (by kernel_rfl)
theorem n25_31 : g25 call k [1,1,1,1,1,1,1] a H K = g25 call k [1,1,1,1,1,1,1,0] a H (hSeq (g25 call k [1,1,1,1,1,1,1,1]) K) := at_seq (by kernel_rfl)
theorem n25_32 : g25 call k [1,1,1,1,1,1,1,0] a H K = g25 call k [1,1,1,1,1,1,1,0,0] a H (hBlock 0 K) := at_block (by kernel_rfl)
theorem n25_33 : g25 call k [1,1,1,1,1,1,1,0,0] a H K = g25 call k [1,1,1,1,1,1,1,0,0,0] a H (hSeq (g25 call k [1,1,1,1,1,1,1,0,0,1]) K) := at_seq (by kernel_rfl)
theorem n25_34 : g25 call k [1,1,1,1,1,1,1,0,0,0] a H K = o25 0 call [1,1,1,1,1,1,1,0,0,0] 0 a H (K .normal) := at_region (by kernel_rfl)
theorem n25_35 : g25 call k [1,1,1,1,1,1,0,1,0,1] a H K = o25 0 call [1,1,1,1,1,1,0,1,0,1] 0 a H (K .normal) := at_region (by kernel_rfl)
theorem n25_36 : g25 call k [1,1,1,1,1,1,1,0,0,1] a H K = onBool (asB (GA.eval a (.tmp 50))) (g25 call k [1,1,1,1,1,1,1,0,0,1,0] a H K) (g25 call k [1,1,1,1,1,1,1,0,0,1,1] a H K) := at_cond (by kernel_rfl)
theorem n25_37 : g25 call k [1,1,1,1,1,1,1,0,0,1,0] a H K = g25 call k [1,1,1,1,1,1,1,0,0,1,0,0] a H (hSeq (g25 call k [1,1,1,1,1,1,1,0,0,1,0,1]) K) := at_seq (by kernel_rfl)
theorem n25_38 : g25 call k [1,1,1,1,1,1,1,0,0,1,0,0] a H K = o25 0 call [1,1,1,1,1,1,1,0,0,1,0,0] 0 a H (K .normal) := at_region (by kernel_rfl)
theorem n25_39 : g25 call k [1,1,1,1,1,1,1,0,0,1,0,1] a H K = K .ret a H := at_ret (by kernel_rfl)
theorem n25_40 : g25 call k [1,1,1,1,1,1,1,0,0,1,1] a H K = g25 call k [1,1,1,1,1,1,1,0,0,1,1,0] a H (hSeq (g25 call k [1,1,1,1,1,1,1,0,0,1,1,1]) K) := at_seq (by kernel_rfl)
theorem n25_41 : g25 call k [1,1,1,1,1,1,1,0,0,1,1,0] a H K = o25 0 call [1,1,1,1,1,1,1,0,0,1,1,0] 0 a H (K .normal) := at_region (by kernel_rfl)
theorem n25_42 : g25 call k [1,1,1,1,1,1,1,0,0,1,1,1] a H K = onBool (asB (GA.eval a (.tmp 68))) (g25 call k [1,1,1,1,1,1,1,0,0,1,1,1,0] a H K) (g25 call k [1,1,1,1,1,1,1,0,0,1,1,1,1] a H K) := at_cond (by kernel_rfl)
theorem n25_43 : g25 call k [1,1,1,1,1,1,1,0,0,1,1,1,0] a H K = g25 call k [1,1,1,1,1,1,1,0,0,1,1,1,0,0] a H (hSeq (g25 call k [1,1,1,1,1,1,1,0,0,1,1,1,0,1]) K) := at_seq (by kernel_rfl)
theorem n25_44 : g25 call k [1,1,1,1,1,1,1,0,0,1,1,1,0,0] a H K = o25 0 call [1,1,1,1,1,1,1,0,0,1,1,1,0,0] 0 a H (K .normal) := at_region (by kernel_rfl)
theorem n25_45 : g25 call k [1,1,1,1,1,1,1,0,0,1,1,1,0,1] a H K = K .ret a H := at_ret (by kernel_rfl)
theorem n25_46 : g25 call k [1,1,1,1,1,1,1,0,0,1,1,1,1] a H K = K .normal a H := at_skip (by kernel_rfl)
theorem n25_47 : g25 call k [1,1,1,1,1,1,1,1] a H K = g25 call k [1,1,1,1,1,1,1,1,0] a H (hSeq (g25 call k [1,1,1,1,1,1,1,1,1]) K) := at_seq (by kernel_rfl)
theorem n25_48 : g25 call k [1,1,1,1,1,1,1,1,0] a H K = o25 0 call [1,1,1,1,1,1,1,1,0] 0 a H (K .normal) := at_region (by kernel_rfl)
theorem n25_49 : g25 call k [1,1,1,1,1,1,1,1,1] a H K = K .ret a H := at_ret (by kernel_rfl)
theorem s25_0 : o25 0 call [0] 0 (FG 77 (fun _ => undef) [(0, p0)]) H K' =
  K' (FG 77 (fun _ => undef) [(2, (.int .i64 0)), (1, (.pointer (some ⟨H.n, 0, none⟩))), (0, p0)]) (GH.push H (.row (Value.cells p0).toList 48 false)) := by kernel_rfl
theorem s25_1 : o25 2 call [1,0] 0 (FG 77 (fun _ => undef) [(2, (.int .i64 0)), (1, (.pointer (some ⟨H.n, 0, none⟩))), (0, p0)]) (GH.push H (.row (Value.cells p0).toList 48 false)) K' =
  onCall 2 call (.func (.func 33) #[] #[]) [] (GH.push H (.row (Value.cells p0).toList 48 false)) fun v1 H2 =>
  onV (gLoad Tryd.prog 42 (.pointer (some ⟨H.n, 0, none⟩)) H2) fun v3 =>
  onV (gLookup Tryd.prog 82 v1 v3 true H2) fun v4 =>
  onV (oExtract v4 0) fun v5 =>
  onV (oExtract v4 1) fun v6 =>
  onH (gStore Tryd.prog 80 (.pointer (some ⟨H2.n, 0, none⟩)) v5 (GH.push H2 (.row [(.bool false), (.bool false), (.bool false), (.bool false)] 80 false))) fun H7 =>
  K' (FG 77 (fun _ => undef) [(4, v6), (3, (.pointer (some ⟨H2.n, 0, none⟩))), (12, v6), (11, v5), (6, v4), (10, v4), (9, v3), (8, (.pointer (some ⟨H.n, 0, none⟩))), (7, v1), (2, (.int .i64 0)), (1, (.pointer (some ⟨H.n, 0, none⟩))), (0, p0)]) H7 := by kernel_rfl
theorem s25_2 : o25 0 call [1,1,0] 0 (FG 77 (fun _ => undef) [(4, v6), (3, (.pointer (some ⟨H2.n, 0, none⟩))), (12, v6), (11, v5), (6, v4), (10, v4), (9, v3), (8, (.pointer (some ⟨H.n, 0, none⟩))), (7, v1), (2, (.int .i64 0)), (1, (.pointer (some ⟨H.n, 0, none⟩))), (0, p0)]) H7 K' =
  onV (gLoad Tryd.prog 48 (.pointer (some ⟨H.n, 0, none⟩)) H7) fun v8 =>
  onH (gStore Tryd.prog 48 (.pointer (some ⟨H7.n, 0, none⟩)) v8 (GH.push H7 (.row [(.int .u8 0), (.int .u8 0), (.int .u8 0), (.int .i64 0), (.int .u8 0), (.int .i64 0)] 48 false))) fun H9 =>
  K' (FG 77 (fun _ => undef) [(5, (.pointer (some ⟨H7.n, 0, none⟩))), (13, v8), (4, v6), (3, (.pointer (some ⟨H2.n, 0, none⟩))), (12, v6), (11, v5), (6, v4), (10, v4), (9, v3), (8, (.pointer (some ⟨H.n, 0, none⟩))), (7, v1), (2, (.int .i64 0)), (1, (.pointer (some ⟨H.n, 0, none⟩))), (0, p0)]) H9 := by kernel_rfl
theorem s25_3 : o25 0 call [1,1,1,0] 0 (FF 77 d) H K' =
  onV (oFieldAddr Tryd.prog 48 (d 5) 0) fun v1 =>
  onH (gStore Tryd.prog 42 v1 (.int .u8 0) H) fun H2 =>
  onV (oFieldAddr Tryd.prog 48 (d 5) 4) fun v3 =>
  onH (gStore Tryd.prog 3 v3 (.int .i64 0) H2) fun H4 =>
  K' (FG 77 d [(15, v3), (14, v1)]) H4 := by kernel_rfl
theorem s25_4 : o25 0 call [1,1,1,1,0,0] 0 (FG 77 d [(15, v3), (14, v1)]) H4 K' =
  onV (oFieldAddr Tryd.prog 80 (d 3) 0) fun v5 =>
  onV (gLoad Tryd.prog 4 v5 H4) fun v6 =>
  K' (FG 77 d [(17, v6), (16, v5), (15, v3), (14, v1)]) H4 := by kernel_rfl
theorem s25_5 : t25 0 call [1,1,1,1,0,1,0,0] 0 2 (FF 77 d) H K' =
  onGrd true (d 4) (K' (FG 77 d [(19, (d 4)), (18, (d 4))]) H) := by kernel_rfl
theorem s25_6 : o25 0 call [1,1,1,1,1,0,0] 0 (FF 77 d) H K' =
  onV (oFieldAddr Tryd.prog 80 (d 3) 1) fun v1 =>
  onV (gLoad Tryd.prog 4 v1 H) fun v2 =>
  K' (FG 77 d [(26, v2), (25, v1)]) H := by kernel_rfl
theorem s25_7 : t25 0 call [1,1,1,1,1,0,1,0,0] 0 2 (FG 77 d [(26, v2), (25, v1)]) H K' =
  onGrd true (d 4) (K' (FG 77 d [(28, (d 4)), (27, (d 4)), (26, v2), (25, v1)]) H) := by kernel_rfl
theorem s25_8 : o25 0 call [1,1,1,1,0,1,0,0] 2 (FG 77 d [(19, (.bool true))]) H K' =
  onV (oFieldAddr Tryd.prog 48 (d 1) 1) fun v1 =>
  onV (gLoad Tryd.prog 43 v1 H) fun v2 =>
  onV ((oBin Tryd.prog .leq 43 v2 (.int .u8 1)).filter closed) fun v3 =>
  K' (FG 77 d [(4, v3), (23, v3), (22, v3), (21, v2), (20, v1), (19, (.bool true))]) H := by kernel_rfl
theorem s25_9 : o25 0 call [1,1,1,1,0,1,0,1] 0 (FG 77 d [(4, v3), (23, v3), (22, v3), (21, v2), (20, v1), (19, (.bool true))]) H K' =
  onV (oFieldAddr Tryd.prog 48 (d 5) 1) fun v4 =>
  onH (gStore Tryd.prog 43 v4 (.int .u8 0) H) fun H5 =>
  K' (FG 77 d [(24, v4), (4, v3), (23, v3), (22, v3), (21, v2), (20, v1), (19, (.bool true))]) H5 := by kernel_rfl
theorem s25_10 : o25 0 call [1,1,1,1,0,1,0,0] 2 (FG 77 d [(19, (.bool false))]) H K' =
  K' (FG 77 d [(4, (.bool false)), (23, (.bool false)), (22, undef), (21, undef), (20, undef), (19, (.bool false))]) H := by kernel_rfl
theorem s25_11 : o25 0 call [1,1,1,1,0,1,0,1] 0 (FG 77 d [(4, (.bool false)), (23, (.bool false)), (22, undef), (21, undef), (20, undef), (19, (.bool false))]) H K' =
  onV (oFieldAddr Tryd.prog 48 (d 5) 1) fun v1 =>
  onH (gStore Tryd.prog 43 v1 (.int .u8 0) H) fun H2 =>
  K' (FG 77 d [(24, v1), (4, (.bool false)), (23, (.bool false)), (22, undef), (21, undef), (20, undef), (19, (.bool false))]) H2 := by kernel_rfl
theorem s25_12 : o25 0 call [1,1,1,1,1,0,1,0,0] 2 (FG 77 d [(28, (.bool true))]) H K' =
  onV (oFieldAddr Tryd.prog 48 (d 1) 2) fun v1 =>
  onV (gLoad Tryd.prog 46 v1 H) fun v2 =>
  onCall 0 call (.func (.func 34) #[] #[]) [v2] H fun v3 H4 =>
  onV ((oBin Tryd.prog .eql 28 v3 (.int .i64 0)).filter closed) fun v5 =>
  K' (FG 77 d [(4, v5), (33, v5), (32, v5), (31, v3), (30, v2), (29, v1), (28, (.bool true))]) H4 := by kernel_rfl
theorem s25_13 : o25 0 call [1,1,1,1,1,0,1,0,1] 0 (FG 77 d [(4, v5), (33, v5), (32, v5), (31, v3), (30, v2), (29, v1), (28, (.bool true))]) H4 K' =
  onV (oFieldAddr Tryd.prog 48 (d 5) 2) fun v6 =>
  onH (gStore Tryd.prog 46 v6 (.agg #[(.int .u8 0), (.int .i64 0)]) H4) fun H7 =>
  K' (FG 77 d [(35, v6), (34, (.agg #[(.int .u8 0), (.int .i64 0)])), (4, v5), (33, v5), (32, v5), (31, v3), (30, v2), (29, v1), (28, (.bool true))]) H7 := by kernel_rfl
theorem s25_14 : o25 0 call [1,1,1,1,1,0,1,0,0] 2 (FG 77 d [(28, (.bool false))]) H K' =
  K' (FG 77 d [(4, (.bool false)), (33, (.bool false)), (32, undef), (31, undef), (30, undef), (29, undef), (28, (.bool false))]) H := by kernel_rfl
theorem s25_15 : o25 0 call [1,1,1,1,1,0,1,0,1] 0 (FG 77 d [(4, (.bool false)), (33, (.bool false)), (32, undef), (31, undef), (30, undef), (29, undef), (28, (.bool false))]) H K' =
  onV (oFieldAddr Tryd.prog 48 (d 5) 2) fun v1 =>
  onH (gStore Tryd.prog 46 v1 (.agg #[(.int .u8 0), (.int .i64 0)]) H) fun H2 =>
  K' (FG 77 d [(35, v1), (34, (.agg #[(.int .u8 0), (.int .i64 0)])), (4, (.bool false)), (33, (.bool false)), (32, undef), (31, undef), (30, undef), (29, undef), (28, (.bool false))]) H2 := by kernel_rfl
theorem s25_16 : o25 0 call [1,1,1,1,1,1,0,0] 0 (FF 77 d) H K' =
  onV (oFieldAddr Tryd.prog 80 (d 3) 2) fun v1 =>
  onV (gLoad Tryd.prog 4 v1 H) fun v2 =>
  K' (FG 77 d [(37, v2), (36, v1)]) H := by kernel_rfl
theorem s25_17 : t25 0 call [1,1,1,1,1,1,0,1,0,0] 0 2 (FF 77 d) H K' =
  onGrd true (d 4) (K' (FG 77 d [(39, (d 4)), (38, (d 4))]) H) := by kernel_rfl
theorem s25_18 : t25 0 call [1,1,1,1,1,1,1,0,0,0] 0 3 (FF 77 d) H K' =
  onV ((oUn Tryd.prog .not (d 4)).filter closed) fun v1 =>
  onGrd true v1 (K' (FG 77 d [(53, v1), (52, v1), (51, (d 4))]) H) := by kernel_rfl
theorem s25_19 : t25 0 call [1,1,1,1,1,1,0,1,0,0] 2 5 (FG 77 d [(39, (.bool true))]) H K' =
  onV (oFieldAddr Tryd.prog 48 (d 1) 3) fun v1 =>
  onV (gLoad Tryd.prog 5 v1 H) fun v2 =>
  onV ((oBin Tryd.prog .geq 5 v2 (.int .u8 1)).filter closed) fun v3 =>
  onGrd true v3 (K' (FG 77 d [(44, v3), (43, v3), (42, v3), (41, v2), (40, v1), (39, (.bool true))]) H) := by kernel_rfl
theorem s25_20 : o25 0 call [1,1,1,1,1,1,0,1,0,0] 2 (FG 77 d [(39, (.bool false))]) H K' =
  K' (FG 77 d [(4, (.bool false)), (48, (.bool false)), (47, undef), (46, undef), (45, undef), (44, (.bool false)), (43, (.bool false)), (42, undef), (41, undef), (40, undef), (39, (.bool false))]) H := by kernel_rfl
theorem s25_21 : o25 0 call [1,1,1,1,1,1,0,1,0,1] 0 (FG 77 d [(4, (.bool false)), (48, (.bool false)), (47, undef), (46, undef), (45, undef), (44, (.bool false)), (43, (.bool false)), (42, undef), (41, undef), (40, undef), (39, (.bool false))]) H K' =
  onV (oFieldAddr Tryd.prog 48 (d 5) 3) fun v1 =>
  onH (gStore Tryd.prog 5 v1 (.int .u8 0) H) fun H2 =>
  K' (FG 77 d [(49, v1), (4, (.bool false)), (48, (.bool false)), (47, undef), (46, undef), (45, undef), (44, (.bool false)), (43, (.bool false)), (42, undef), (41, undef), (40, undef), (39, (.bool false))]) H2 := by kernel_rfl
theorem s25_22 : o25 0 call [1,1,1,1,1,1,1,0,0,0] 3 (FG 77 d [(53, (.bool true))]) H K' =
  K' (FG 77 d [(50, (.bool true)), (67, (.bool true)), (66, undef), (65, undef), (64, undef), (63, undef), (62, undef), (61, undef), (60, undef), (59, undef), (58, (.bool true)), (57, (.bool true)), (56, undef), (55, undef), (54, undef), (53, (.bool true))]) H := by kernel_rfl
theorem s25_23 : t25 0 call [1,1,1,1,1,1,1,0,0,0] 3 5 (FG 77 d [(53, (.bool false))]) H K' =
  onV (gLoad Tryd.prog 48 (d 5) H) fun v1 =>
  onV ((oBin Tryd.prog .neq 48 v1 (.agg #[(.int .u8 0), (.int .u8 0), (.int .u8 0), (.int .i64 0), (.int .u8 0), (.int .i64 0)])).filter closed) fun v2 =>
  onGrd true v2 (K' (FG 77 d [(58, v2), (57, v2), (56, v2), (55, (.agg #[(.int .u8 0), (.int .u8 0), (.int .u8 0), (.int .i64 0), (.int .u8 0), (.int .i64 0)])), (54, v1), (53, (.bool false))]) H) := by kernel_rfl
theorem s25_24 : o25 0 call [1,1,1,1,1,1,0,1,0,0] 7 (FG 77 d [(44, (.bool true))]) H K' =
  onV (oFieldAddr Tryd.prog 48 (d 1) 3) fun v1 =>
  onV (gLoad Tryd.prog 5 v1 H) fun v2 =>
  onV ((oBin Tryd.prog .leq 5 v2 (.int .u8 6)).filter closed) fun v3 =>
  K' (FG 77 d [(4, v3), (48, v3), (47, v3), (46, v2), (45, v1), (44, (.bool true))]) H := by kernel_rfl
theorem s25_25 : o25 0 call [1,1,1,1,1,1,0,1,0,1] 0 (FG 77 d [(4, v3), (48, v3), (47, v3), (46, v2), (45, v1), (44, (.bool true))]) H K' =
  onV (oFieldAddr Tryd.prog 48 (d 5) 3) fun v4 =>
  onH (gStore Tryd.prog 5 v4 (.int .u8 0) H) fun H5 =>
  K' (FG 77 d [(49, v4), (4, v3), (48, v3), (47, v3), (46, v2), (45, v1), (44, (.bool true))]) H5 := by kernel_rfl
theorem s25_26 : o25 0 call [1,1,1,1,1,1,0,1,0,0] 7 (FG 77 d [(44, (.bool false))]) H K' =
  K' (FG 77 d [(4, (.bool false)), (48, (.bool false)), (47, undef), (46, undef), (45, undef), (44, (.bool false))]) H := by kernel_rfl
theorem s25_27 : o25 0 call [1,1,1,1,1,1,0,1,0,1] 0 (FG 77 d [(4, (.bool false)), (48, (.bool false)), (47, undef), (46, undef), (45, undef), (44, (.bool false))]) H K' =
  onV (oFieldAddr Tryd.prog 48 (d 5) 3) fun v1 =>
  onH (gStore Tryd.prog 5 v1 (.int .u8 0) H) fun H2 =>
  K' (FG 77 d [(49, v1), (4, (.bool false)), (48, (.bool false)), (47, undef), (46, undef), (45, undef), (44, (.bool false))]) H2 := by kernel_rfl
theorem s25_28 : o25 0 call [1,1,1,1,1,1,1,0,0,1,0,0] 0 (FF 77 d) H K' =
  K' (FG 77 d [(2, (.int .i64 1))]) H := by kernel_rfl
theorem s25_29 : o25 0 call [1,1,1,1,1,1,1,0,0,0] 8 (FG 77 d [(58, (.bool true))]) H K' =
  K' (FG 77 d [(50, (.bool true)), (67, (.bool true)), (66, undef), (65, undef), (64, undef), (63, undef), (62, undef), (61, undef), (60, undef), (59, undef), (58, (.bool true))]) H := by kernel_rfl
theorem s25_30 : o25 0 call [1,1,1,1,1,1,1,0,0,1,0,0] 0 (FG 77 d [(50, (.bool true)), (67, (.bool true)), (66, undef), (65, undef), (64, undef), (63, undef), (62, undef), (61, undef), (60, undef), (59, undef), (58, (.bool true))]) H K' =
  K' (FG 77 d [(2, (.int .i64 1)), (50, (.bool true)), (67, (.bool true)), (66, undef), (65, undef), (64, undef), (63, undef), (62, undef), (61, undef), (60, undef), (59, undef), (58, (.bool true))]) H := by kernel_rfl
theorem s25_31 : t25 0 call [1,1,1,1,1,1,1,0,0,0] 8 4 (FG 77 d [(58, (.bool false))]) H K' =
  onV (oFieldAddr Tryd.prog 80 (d 3) 3) fun v1 =>
  onV (gLoad Tryd.prog 4 v1 H) fun v2 =>
  onV ((oUn Tryd.prog .not v2).filter closed) fun v3 =>
  onGrd true v3 (K' (FG 77 d [(62, v3), (61, v3), (60, v2), (59, v1), (58, (.bool false))]) H) := by kernel_rfl
theorem s25_32 : o25 0 call [1,1,1,1,1,1,1,0,0,0] 12 (FG 77 d [(62, (.bool true)), (58, (.bool false))]) H K' =
  onV (oFieldAddr Tryd.prog 48 (d 1) 4) fun v1 =>
  onV (gLoad Tryd.prog 3 v1 H) fun v2 =>
  onV ((oBin Tryd.prog .neq 3 v2 (.int .i64 0)).filter closed) fun v3 =>
  K' (FG 77 d [(50, v3), (67, v3), (66, v3), (65, v3), (64, v2), (63, v1), (62, (.bool true)), (58, (.bool false))]) H := by kernel_rfl
theorem s25_33 : o25 0 call [1,1,1,1,1,1,1,0,0,1,0,0] 0 (FG 77 d [(50, v3), (67, v3), (66, v3), (65, v3), (64, v2), (63, v1), (62, (.bool true)), (58, (.bool false))]) H K' =
  K' (FG 77 d [(2, (.int .i64 1)), (50, v3), (67, v3), (66, v3), (65, v3), (64, v2), (63, v1), (62, (.bool true)), (58, (.bool false))]) H := by kernel_rfl
theorem s25_34 : o25 0 call [1,1,1,1,1,1,1,0,0,0] 12 (FG 77 d [(62, (.bool false)), (58, (.bool false))]) H K' =
  K' (FG 77 d [(50, (.bool false)), (67, (.bool false)), (66, (.bool false)), (65, undef), (64, undef), (63, undef), (62, (.bool false)), (58, (.bool false))]) H := by kernel_rfl
theorem s25_35 : t25 0 call [1,1,1,1,1,1,1,0,0,1,1,0] 0 4 (FF 77 d) H K' =
  onV (oFieldAddr Tryd.prog 48 (d 1) 4) fun v1 =>
  onV (gLoad Tryd.prog 3 v1 H) fun v2 =>
  onV ((oBin Tryd.prog .lss 3 v2 (.int .i64 (-4))).filter closed) fun v3 =>
  onGrd true v3 (K' (FG 77 d [(72, v3), (71, v3), (70, v2), (69, v1)]) H) := by kernel_rfl
theorem s25_36 : o25 0 call [1,1,1,1,1,1,1,0,0,1,1,0] 4 (FG 77 d [(72, (.bool true))]) H K' =
  K' (FG 77 d [(68, (.bool true)), (76, (.bool true)), (75, undef), (74, undef), (73, undef), (72, (.bool true))]) H := by kernel_rfl
theorem s25_37 : o25 0 call [1,1,1,1,1,1,1,0,0,1,1,1,0,0] 0 (FG 77 d [(68, (.bool true)), (76, (.bool true)), (75, undef), (74, undef), (73, undef), (72, (.bool true))]) H K' =
  K' (FG 77 d [(2, (.int .i64 11)), (68, (.bool true)), (76, (.bool true)), (75, undef), (74, undef), (73, undef), (72, (.bool true))]) H := by kernel_rfl
theorem s25_38 : o25 0 call [1,1,1,1,1,1,1,0,0,1,1,0] 4 (FG 77 d [(72, (.bool false))]) H K' =
  onV (oFieldAddr Tryd.prog 48 (d 1) 4) fun v1 =>
  onV (gLoad Tryd.prog 3 v1 H) fun v2 =>
  onV ((oBin Tryd.prog .gtr 3 v2 (.int .i64 4)).filter closed) fun v3 =>
  K' (FG 77 d [(68, v3), (76, v3), (75, v3), (74, v2), (73, v1), (72, (.bool false))]) H := by kernel_rfl
theorem s25_39 : o25 0 call [1,1,1,1,1,1,1,0,0,1,1,1,0,0] 0 (FG 77 d [(68, v3), (76, v3), (75, v3), (74, v2), (73, v1), (72, (.bool false))]) H K' =
  K' (FG 77 d [(2, (.int .i64 11)), (68, v3), (76, v3), (75, v3), (74, v2), (73, v1), (72, (.bool false))]) H := by kernel_rfl
theorem s25_40 : o25 0 call [1,1,1,1,1,1,1,1,0] 0 (FG 77 d [(68, v3), (76, v3), (75, v3), (74, v2), (73, v1), (72, (.bool false))]) H K' =
  K' (FG 77 d [(2, (.int .i64 0)), (68, v3), (76, v3), (75, v3), (74, v2), (73, v1), (72, (.bool false))]) H := by kernel_rfl
noncomputable def f25_r14 (call : Handle) (k : Nat) (H : GH) : M (Value × GH) :=
  some [((.int .i64 1), H)]
theorem f25_r14_eq (call : Handle) (k : Nat) : g25 call k [1,1,1,1,1,1,1,0,0,1,0,0] (FF 77 d) H (hSeq (g25 call k [1,1,1,1,1,1,1,0,0,1,0,1]) (hBlock 0 (hSeq (g25 call k [1,1,1,1,1,1,1,1]) (hFin Tryd.prog Tryd.f25)))) = f25_r14 call k H := by
  unfold f25_r14
  rw [n25_38]
  rw [s25_28]
  rw [hSeq_n]
  rw [n25_39]
  rw [hBlock_r, hSeq_r]
  kernel_rfl
noncomputable def f25_g15_4 (call : Handle) (k : Nat) (x72 : Value) (x1 : Value) (H : GH) : M (Value × GH) :=
 onBool (asB x72)
  (some [((.int .i64 11), H)])
  (onV (oFieldAddr Tryd.prog 48 x1 4) fun v1 =>
  onV (gLoad Tryd.prog 3 v1 H) fun v2 =>
  onV ((oBin Tryd.prog .gtr 3 v2 (.int .i64 4)).filter closed) fun v3 =>
  onBool (asB v3)
  (some [((.int .i64 11), H)])
  (some [((.int .i64 0), H)]))
theorem f25_g15_4_true (call : Handle) (k : Nat) : o25 0 call [1,1,1,1,1,1,1,0,0,1,1,0] 4 (FG 77 d [(72, (.bool true))]) H ((hSeq (g25 call k [1,1,1,1,1,1,1,0,0,1,1,1]) (hBlock 0 (hSeq (g25 call k [1,1,1,1,1,1,1,1]) (hFin Tryd.prog Tryd.f25)))) .normal) =
  some [((.int .i64 11), H)] := by
  rw [s25_36]
  rw [hSeq_n]
  rw [n25_42]
  refine (onBool_tt (by kernel_rfl)).trans ?_
  rw [n25_43]
  rw [n25_44]
  rw [s25_37]
  rw [hSeq_n]
  rw [n25_45]
  rw [hBlock_r, hSeq_r]
  kernel_rfl
theorem f25_g15_4_false (call : Handle) (k : Nat) : o25 0 call [1,1,1,1,1,1,1,0,0,1,1,0] 4 (FG 77 d [(72, (.bool false))]) H ((hSeq (g25 call k [1,1,1,1,1,1,1,0,0,1,1,1]) (hBlock 0 (hSeq (g25 call k [1,1,1,1,1,1,1,1]) (hFin Tryd.prog Tryd.f25)))) .normal) =
  onV (oFieldAddr Tryd.prog 48 (d 1) 4) fun v1 =>
  onV (gLoad Tryd.prog 3 v1 H) fun v2 =>
  onV ((oBin Tryd.prog .gtr 3 v2 (.int .i64 4)).filter closed) fun v3 =>
  onBool (asB v3)
  (some [((.int .i64 11), H)])
  (some [((.int .i64 0), H)]) := by
  rw [s25_38]
  refine onV_c fun v1 => ?_
  refine onV_c fun v2 => ?_
  refine onV_c fun v3 => ?_
  rw [hSeq_n]
  rw [n25_42]
  refine onBool_cc (by kernel_rfl) ?_ ?_
  · rw [n25_43]
    rw [n25_44]
    rw [s25_39]
    rw [hSeq_n]
    rw [n25_45]
    rw [hBlock_r, hSeq_r]
    kernel_rfl
  · rw [n25_46]
    rw [hBlock_n]
    rw [hSeq_n]
    rw [n25_47]
    rw [n25_48]
    rw [s25_40]
    rw [hSeq_n]
    rw [n25_49]
    kernel_rfl
theorem f25_g15_4_eq (call : Handle) (k : Nat) : onGrd true xg (o25 0 call [1,1,1,1,1,1,1,0,0,1,1,0] 4 (FG 77 d [(72, xg)]) H ((hSeq (g25 call k [1,1,1,1,1,1,1,0,0,1,1,1]) (hBlock 0 (hSeq (g25 call k [1,1,1,1,1,1,1,1]) (hFin Tryd.prog Tryd.f25)))) .normal)) =
  f25_g15_4 call k xg (d 1) H := by
  cases xg with
  | bool b => cases b with
    | true => exact onGrd_b.trans (f25_g15_4_true call k)
    | false => exact onGrd_b.trans (f25_g15_4_false call k)
  | _ => kernel_rfl
noncomputable def f25_r15 (call : Handle) (k : Nat) (x1 : Value) (H : GH) : M (Value × GH) :=
  onV (oFieldAddr Tryd.prog 48 x1 4) fun v1 =>
  onV (gLoad Tryd.prog 3 v1 H) fun v2 =>
  onV ((oBin Tryd.prog .lss 3 v2 (.int .i64 (-4))).filter closed) fun v3 =>
  (f25_g15_4 call k v3 x1 H)
theorem f25_r15_eq (call : Handle) (k : Nat) : g25 call k [1,1,1,1,1,1,1,0,0,1,1,0] (FF 77 d) H (hSeq (g25 call k [1,1,1,1,1,1,1,0,0,1,1,1]) (hBlock 0 (hSeq (g25 call k [1,1,1,1,1,1,1,1]) (hFin Tryd.prog Tryd.f25)))) = f25_r15 call k (d 1) H := by
  unfold f25_r15
  rw [n25_41]
  rw [o25_s 0 4, s25_35]
  refine onV_c fun v1 => ?_
  refine onV_c fun v2 => ?_
  refine onV_c fun v3 => ?_
  generalize e : (FG 77 d [(72, v3), (71, v3), (70, v2), (69, v1)]) = a
  rw [show a = (FG 77 (gf a) [(72, v3)]) from (FG_eq (by subst e; exact FG_len) (FS_cons (by subst e; kernel_rfl) (FS_nil))).symm]
  exact (f25_g15_4_eq (d := gf a) call k).trans (by subst e; kernel_rfl)
noncomputable def f25_g13_12 (call : Handle) (k : Nat) (x62 : Value) (x1 : Value) (H : GH) : M (Value × GH) :=
 onBool (asB x62)
  (onV (oFieldAddr Tryd.prog 48 x1 4) fun v1 =>
  onV (gLoad Tryd.prog 3 v1 H) fun v2 =>
  onV ((oBin Tryd.prog .neq 3 v2 (.int .i64 0)).filter closed) fun v3 =>
  onBool (asB v3)
  (some [((.int .i64 1), H)])
  ((f25_r15 call k x1 H)))
  ((f25_r15 call k x1 H))
theorem f25_g13_12_true (call : Handle) (k : Nat) : o25 0 call [1,1,1,1,1,1,1,0,0,0] 12 (FG 77 d [(62, (.bool true)), (58, (.bool false))]) H ((hSeq (g25 call k [1,1,1,1,1,1,1,0,0,1]) (hBlock 0 (hSeq (g25 call k [1,1,1,1,1,1,1,1]) (hFin Tryd.prog Tryd.f25)))) .normal) =
  onV (oFieldAddr Tryd.prog 48 (d 1) 4) fun v1 =>
  onV (gLoad Tryd.prog 3 v1 H) fun v2 =>
  onV ((oBin Tryd.prog .neq 3 v2 (.int .i64 0)).filter closed) fun v3 =>
  onBool (asB v3)
  (some [((.int .i64 1), H)])
  ((f25_r15 call k (d 1) H)) := by
  rw [s25_32]
  refine onV_c fun v1 => ?_
  refine onV_c fun v2 => ?_
  refine onV_c fun v3 => ?_
  rw [hSeq_n]
  rw [n25_36]
  refine onBool_cc (by kernel_rfl) ?_ ?_
  · rw [n25_37]
    rw [n25_38]
    rw [s25_33]
    rw [hSeq_n]
    rw [n25_39]
    rw [hBlock_r, hSeq_r]
    kernel_rfl
  · rw [n25_40]
    generalize e : (FG 77 d [(50, v3), (67, v3), (66, v3), (65, v3), (64, v2), (63, v1), (62, (.bool true)), (58, (.bool false))]) = a
    rw [show a = (FF 77 (gf a)) from (FF_gf (by subst e; exact FG_len)).symm]
    exact (f25_r15_eq (d := gf a) call k).trans (by subst e; kernel_rfl)
theorem f25_g13_12_false (call : Handle) (k : Nat) : o25 0 call [1,1,1,1,1,1,1,0,0,0] 12 (FG 77 d [(62, (.bool false)), (58, (.bool false))]) H ((hSeq (g25 call k [1,1,1,1,1,1,1,0,0,1]) (hBlock 0 (hSeq (g25 call k [1,1,1,1,1,1,1,1]) (hFin Tryd.prog Tryd.f25)))) .normal) =
  (f25_r15 call k (d 1) H) := by
  rw [s25_34]
  rw [hSeq_n]
  rw [n25_36]
  refine (onBool_ff (by kernel_rfl)).trans ?_
  rw [n25_40]
  generalize e : (FG 77 d [(50, (.bool false)), (67, (.bool false)), (66, (.bool false)), (65, undef), (64, undef), (63, undef), (62, (.bool false)), (58, (.bool false))]) = a
  rw [show a = (FF 77 (gf a)) from (FF_gf (by subst e; exact FG_len)).symm]
  exact (f25_r15_eq (d := gf a) call k).trans (by subst e; kernel_rfl)
theorem f25_g13_12_eq (call : Handle) (k : Nat) : onGrd true xg (o25 0 call [1,1,1,1,1,1,1,0,0,0] 12 (FG 77 d [(62, xg), (58, (.bool false))]) H ((hSeq (g25 call k [1,1,1,1,1,1,1,0,0,1]) (hBlock 0 (hSeq (g25 call k [1,1,1,1,1,1,1,1]) (hFin Tryd.prog Tryd.f25)))) .normal)) =
  f25_g13_12 call k xg (d 1) H := by
  cases xg with
  | bool b => cases b with
    | true => exact onGrd_b.trans (f25_g13_12_true call k)
    | false => exact onGrd_b.trans (f25_g13_12_false call k)
  | _ => kernel_rfl
noncomputable def f25_g13_8 (call : Handle) (k : Nat) (x58 : Value) (x1 x3 : Value) (H : GH) : M (Value × GH) :=
 onBool (asB x58)
  (some [((.int .i64 1), H)])
  (onV (oFieldAddr Tryd.prog 80 x3 3) fun v1 =>
  onV (gLoad Tryd.prog 4 v1 H) fun v2 =>
  onV ((oUn Tryd.prog .not v2).filter closed) fun v3 =>
  (f25_g13_12 call k v3 x1 H))
theorem f25_g13_8_true (call : Handle) (k : Nat) : o25 0 call [1,1,1,1,1,1,1,0,0,0] 8 (FG 77 d [(58, (.bool true))]) H ((hSeq (g25 call k [1,1,1,1,1,1,1,0,0,1]) (hBlock 0 (hSeq (g25 call k [1,1,1,1,1,1,1,1]) (hFin Tryd.prog Tryd.f25)))) .normal) =
  some [((.int .i64 1), H)] := by
  rw [s25_29]
  rw [hSeq_n]
  rw [n25_36]
  refine (onBool_tt (by kernel_rfl)).trans ?_
  rw [n25_37]
  rw [n25_38]
  rw [s25_30]
  rw [hSeq_n]
  rw [n25_39]
  rw [hBlock_r, hSeq_r]
  kernel_rfl
theorem f25_g13_8_false (call : Handle) (k : Nat) : o25 0 call [1,1,1,1,1,1,1,0,0,0] 8 (FG 77 d [(58, (.bool false))]) H ((hSeq (g25 call k [1,1,1,1,1,1,1,0,0,1]) (hBlock 0 (hSeq (g25 call k [1,1,1,1,1,1,1,1]) (hFin Tryd.prog Tryd.f25)))) .normal) =
  onV (oFieldAddr Tryd.prog 80 (d 3) 3) fun v1 =>
  onV (gLoad Tryd.prog 4 v1 H) fun v2 =>
  onV ((oUn Tryd.prog .not v2).filter closed) fun v3 =>
  (f25_g13_12 call k v3 (d 1) H) := by
  rw [o25_s 8 4, s25_31]
  refine onV_c fun v1 => ?_
  refine onV_c fun v2 => ?_
  refine onV_c fun v3 => ?_
  generalize e : (FG 77 d [(62, v3), (61, v3), (60, v2), (59, v1), (58, (.bool false))]) = a
  rw [show a = (FG 77 (gf a) [(62, v3), (58, (.bool false))]) from (FG_eq (by subst e; exact FG_len) (FS_cons (by subst e; kernel_rfl) (FS_cons (by subst e; kernel_rfl) (FS_nil)))).symm]
  exact (f25_g13_12_eq (d := gf a) call k).trans (by subst e; kernel_rfl)
theorem f25_g13_8_eq (call : Handle) (k : Nat) : onGrd true xg (o25 0 call [1,1,1,1,1,1,1,0,0,0] 8 (FG 77 d [(58, xg)]) H ((hSeq (g25 call k [1,1,1,1,1,1,1,0,0,1]) (hBlock 0 (hSeq (g25 call k [1,1,1,1,1,1,1,1]) (hFin Tryd.prog Tryd.f25)))) .normal)) =
  f25_g13_8 call k xg (d 1) (d 3) H := by
  cases xg with
  | bool b => cases b with
    | true => exact onGrd_b.trans (f25_g13_8_true call k)
    | false => exact onGrd_b.trans (f25_g13_8_false call k)
  | _ => kernel_rfl
noncomputable def f25_g13_3 (call : Handle) (k : Nat) (x53 : Value) (x1 x3 x5 : Value) (H : GH) : M (Value × GH) :=
 onBool (asB x53)
  ((f25_r14 call k H))
  (onV (gLoad Tryd.prog 48 x5 H) fun v1 =>
  onV ((oBin Tryd.prog .neq 48 v1 (.agg #[(.int .u8 0), (.int .u8 0), (.int .u8 0), (.int .i64 0), (.int .u8 0), (.int .i64 0)])).filter closed) fun v2 =>
  (f25_g13_8 call k v2 x1 x3 H))
theorem f25_g13_3_true (call : Handle) (k : Nat) : o25 0 call [1,1,1,1,1,1,1,0,0,0] 3 (FG 77 d [(53, (.bool true))]) H ((hSeq (g25 call k [1,1,1,1,1,1,1,0,0,1]) (hBlock 0 (hSeq (g25 call k [1,1,1,1,1,1,1,1]) (hFin Tryd.prog Tryd.f25)))) .normal) =
  (f25_r14 call k H) := by
  rw [s25_22]
  rw [hSeq_n]
  rw [n25_36]
  refine (onBool_tt (by kernel_rfl)).trans ?_
  rw [n25_37]
  generalize e : (FG 77 d [(50, (.bool true)), (67, (.bool true)), (66, undef), (65, undef), (64, undef), (63, undef), (62, undef), (61, undef), (60, undef), (59, undef), (58, (.bool true)), (57, (.bool true)), (56, undef), (55, undef), (54, undef), (53, (.bool true))]) = a
  rw [show a = (FF 77 (gf a)) from (FF_gf (by subst e; exact FG_len)).symm]
  exact (f25_r14_eq (d := gf a) call k).trans (by subst e; kernel_rfl)
theorem f25_g13_3_false (call : Handle) (k : Nat) : o25 0 call [1,1,1,1,1,1,1,0,0,0] 3 (FG 77 d [(53, (.bool false))]) H ((hSeq (g25 call k [1,1,1,1,1,1,1,0,0,1]) (hBlock 0 (hSeq (g25 call k [1,1,1,1,1,1,1,1]) (hFin Tryd.prog Tryd.f25)))) .normal) =
  onV (gLoad Tryd.prog 48 (d 5) H) fun v1 =>
  onV ((oBin Tryd.prog .neq 48 v1 (.agg #[(.int .u8 0), (.int .u8 0), (.int .u8 0), (.int .i64 0), (.int .u8 0), (.int .i64 0)])).filter closed) fun v2 =>
  (f25_g13_8 call k v2 (d 1) (d 3) H) := by
  rw [o25_s 3 5, s25_23]
  refine onV_c fun v1 => ?_
  refine onV_c fun v2 => ?_
  generalize e : (FG 77 d [(58, v2), (57, v2), (56, v2), (55, (.agg #[(.int .u8 0), (.int .u8 0), (.int .u8 0), (.int .i64 0), (.int .u8 0), (.int .i64 0)])), (54, v1), (53, (.bool false))]) = a
  rw [show a = (FG 77 (gf a) [(58, v2)]) from (FG_eq (by subst e; exact FG_len) (FS_cons (by subst e; kernel_rfl) (FS_nil))).symm]
  exact (f25_g13_8_eq (d := gf a) call k).trans (by subst e; kernel_rfl)
theorem f25_g13_3_eq (call : Handle) (k : Nat) : onGrd true xg (o25 0 call [1,1,1,1,1,1,1,0,0,0] 3 (FG 77 d [(53, xg)]) H ((hSeq (g25 call k [1,1,1,1,1,1,1,0,0,1]) (hBlock 0 (hSeq (g25 call k [1,1,1,1,1,1,1,1]) (hFin Tryd.prog Tryd.f25)))) .normal)) =
  f25_g13_3 call k xg (d 1) (d 3) (d 5) H := by
  cases xg with
  | bool b => cases b with
    | true => exact onGrd_b.trans (f25_g13_3_true call k)
    | false => exact onGrd_b.trans (f25_g13_3_false call k)
  | _ => kernel_rfl
noncomputable def f25_r13 (call : Handle) (k : Nat) (x1 x3 x4 x5 : Value) (H : GH) : M (Value × GH) :=
  onV ((oUn Tryd.prog .not x4).filter closed) fun v1 =>
  (f25_g13_3 call k v1 x1 x3 x5 H)
theorem f25_r13_eq (call : Handle) (k : Nat) : g25 call k [1,1,1,1,1,1,1] (FF 77 d) H (hFin Tryd.prog Tryd.f25) = f25_r13 call k (d 1) (d 3) (d 4) (d 5) H := by
  unfold f25_r13
  rw [n25_31]
  rw [n25_32]
  rw [n25_33]
  rw [n25_34]
  rw [o25_s 0 3, s25_18]
  refine onV_c fun v1 => ?_
  generalize e : (FG 77 d [(53, v1), (52, v1), (51, (d 4))]) = a
  rw [show a = (FG 77 (gf a) [(53, v1)]) from (FG_eq (by subst e; exact FG_len) (FS_cons (by subst e; kernel_rfl) (FS_nil))).symm]
  exact (f25_g13_3_eq (d := gf a) call k).trans (by subst e; kernel_rfl)
noncomputable def f25_g11_7 (call : Handle) (k : Nat) (x44 : Value) (x1 x3 x5 : Value) (H : GH) : M (Value × GH) :=
 onBool (asB x44)
  (onV (oFieldAddr Tryd.prog 48 x1 3) fun v1 =>
  onV (gLoad Tryd.prog 5 v1 H) fun v2 =>
  onV ((oBin Tryd.prog .leq 5 v2 (.int .u8 6)).filter closed) fun v3 =>
  onV (oFieldAddr Tryd.prog 48 x5 3) fun v4 =>
  onH (gStore Tryd.prog 5 v4 (.int .u8 0) H) fun H5 =>
  (f25_r13 call k x1 x3 v3 x5 H5))
  (onV (oFieldAddr Tryd.prog 48 x5 3) fun v1 =>
  onH (gStore Tryd.prog 5 v1 (.int .u8 0) H) fun H2 =>
  (f25_r13 call k x1 x3 (.bool false) x5 H2))
theorem f25_g11_7_true (call : Handle) (k : Nat) : o25 0 call [1,1,1,1,1,1,0,1,0,0] 7 (FG 77 d [(44, (.bool true))]) H ((hSeq (g25 call k [1,1,1,1,1,1,0,1,0,1]) (hSeq (g25 call k [1,1,1,1,1,1,1]) (hFin Tryd.prog Tryd.f25))) .normal) =
  onV (oFieldAddr Tryd.prog 48 (d 1) 3) fun v1 =>
  onV (gLoad Tryd.prog 5 v1 H) fun v2 =>
  onV ((oBin Tryd.prog .leq 5 v2 (.int .u8 6)).filter closed) fun v3 =>
  onV (oFieldAddr Tryd.prog 48 (d 5) 3) fun v4 =>
  onH (gStore Tryd.prog 5 v4 (.int .u8 0) H) fun H5 =>
  (f25_r13 call k (d 1) (d 3) v3 (d 5) H5) := by
  rw [s25_24]
  refine onV_c fun v1 => ?_
  refine onV_c fun v2 => ?_
  refine onV_c fun v3 => ?_
  rw [hSeq_n]
  rw [n25_35]
  rw [s25_25]
  refine onV_c fun v4 => ?_
  refine onH_c fun H5 => ?_
  rw [hSeq_n]
  generalize e : (FG 77 d [(49, v4), (4, v3), (48, v3), (47, v3), (46, v2), (45, v1), (44, (.bool true))]) = a
  rw [show a = (FF 77 (gf a)) from (FF_gf (by subst e; exact FG_len)).symm]
  exact (f25_r13_eq (d := gf a) call k).trans (by subst e; kernel_rfl)
theorem f25_g11_7_false (call : Handle) (k : Nat) : o25 0 call [1,1,1,1,1,1,0,1,0,0] 7 (FG 77 d [(44, (.bool false))]) H ((hSeq (g25 call k [1,1,1,1,1,1,0,1,0,1]) (hSeq (g25 call k [1,1,1,1,1,1,1]) (hFin Tryd.prog Tryd.f25))) .normal) =
  onV (oFieldAddr Tryd.prog 48 (d 5) 3) fun v1 =>
  onH (gStore Tryd.prog 5 v1 (.int .u8 0) H) fun H2 =>
  (f25_r13 call k (d 1) (d 3) (.bool false) (d 5) H2) := by
  rw [s25_26]
  rw [hSeq_n]
  rw [n25_35]
  rw [s25_27]
  refine onV_c fun v1 => ?_
  refine onH_c fun H2 => ?_
  rw [hSeq_n]
  generalize e : (FG 77 d [(49, v1), (4, (.bool false)), (48, (.bool false)), (47, undef), (46, undef), (45, undef), (44, (.bool false))]) = a
  rw [show a = (FF 77 (gf a)) from (FF_gf (by subst e; exact FG_len)).symm]
  exact (f25_r13_eq (d := gf a) call k).trans (by subst e; kernel_rfl)
theorem f25_g11_7_eq (call : Handle) (k : Nat) : onGrd true xg (o25 0 call [1,1,1,1,1,1,0,1,0,0] 7 (FG 77 d [(44, xg)]) H ((hSeq (g25 call k [1,1,1,1,1,1,0,1,0,1]) (hSeq (g25 call k [1,1,1,1,1,1,1]) (hFin Tryd.prog Tryd.f25))) .normal)) =
  f25_g11_7 call k xg (d 1) (d 3) (d 5) H := by
  cases xg with
  | bool b => cases b with
    | true => exact onGrd_b.trans (f25_g11_7_true call k)
    | false => exact onGrd_b.trans (f25_g11_7_false call k)
  | _ => kernel_rfl
noncomputable def f25_g11_2 (call : Handle) (k : Nat) (x39 : Value) (x1 x3 x5 : Value) (H : GH) : M (Value × GH) :=
 onBool (asB x39)
  (onV (oFieldAddr Tryd.prog 48 x1 3) fun v1 =>
  onV (gLoad Tryd.prog 5 v1 H) fun v2 =>
  onV ((oBin Tryd.prog .geq 5 v2 (.int .u8 1)).filter closed) fun v3 =>
  (f25_g11_7 call k v3 x1 x3 x5 H))
  (onV (oFieldAddr Tryd.prog 48 x5 3) fun v1 =>
  onH (gStore Tryd.prog 5 v1 (.int .u8 0) H) fun H2 =>
  (f25_r13 call k x1 x3 (.bool false) x5 H2))
theorem f25_g11_2_true (call : Handle) (k : Nat) : o25 0 call [1,1,1,1,1,1,0,1,0,0] 2 (FG 77 d [(39, (.bool true))]) H ((hSeq (g25 call k [1,1,1,1,1,1,0,1,0,1]) (hSeq (g25 call k [1,1,1,1,1,1,1]) (hFin Tryd.prog Tryd.f25))) .normal) =
  onV (oFieldAddr Tryd.prog 48 (d 1) 3) fun v1 =>
  onV (gLoad Tryd.prog 5 v1 H) fun v2 =>
  onV ((oBin Tryd.prog .geq 5 v2 (.int .u8 1)).filter closed) fun v3 =>
  (f25_g11_7 call k v3 (d 1) (d 3) (d 5) H) := by
  rw [o25_s 2 5, s25_19]
  refine onV_c fun v1 => ?_
  refine onV_c fun v2 => ?_
  refine onV_c fun v3 => ?_
  generalize e : (FG 77 d [(44, v3), (43, v3), (42, v3), (41, v2), (40, v1), (39, (.bool true))]) = a
  rw [show a = (FG 77 (gf a) [(44, v3)]) from (FG_eq (by subst e; exact FG_len) (FS_cons (by subst e; kernel_rfl) (FS_nil))).symm]
  exact (f25_g11_7_eq (d := gf a) call k).trans (by subst e; kernel_rfl)
theorem f25_g11_2_false (call : Handle) (k : Nat) : o25 0 call [1,1,1,1,1,1,0,1,0,0] 2 (FG 77 d [(39, (.bool false))]) H ((hSeq (g25 call k [1,1,1,1,1,1,0,1,0,1]) (hSeq (g25 call k [1,1,1,1,1,1,1]) (hFin Tryd.prog Tryd.f25))) .normal) =
  onV (oFieldAddr Tryd.prog 48 (d 5) 3) fun v1 =>
  onH (gStore Tryd.prog 5 v1 (.int .u8 0) H) fun H2 =>
  (f25_r13 call k (d 1) (d 3) (.bool false) (d 5) H2) := by
  rw [s25_20]
  rw [hSeq_n]
  rw [n25_35]
  rw [s25_21]
  refine onV_c fun v1 => ?_
  refine onH_c fun H2 => ?_
  rw [hSeq_n]
  generalize e : (FG 77 d [(49, v1), (4, (.bool false)), (48, (.bool false)), (47, undef), (46, undef), (45, undef), (44, (.bool false)), (43, (.bool false)), (42, undef), (41, undef), (40, undef), (39, (.bool false))]) = a
  rw [show a = (FF 77 (gf a)) from (FF_gf (by subst e; exact FG_len)).symm]
  exact (f25_r13_eq (d := gf a) call k).trans (by subst e; kernel_rfl)
theorem f25_g11_2_eq (call : Handle) (k : Nat) : onGrd true xg (o25 0 call [1,1,1,1,1,1,0,1,0,0] 2 (FG 77 d [(39, xg)]) H ((hSeq (g25 call k [1,1,1,1,1,1,0,1,0,1]) (hSeq (g25 call k [1,1,1,1,1,1,1]) (hFin Tryd.prog Tryd.f25))) .normal)) =
  f25_g11_2 call k xg (d 1) (d 3) (d 5) H := by
  cases xg with
  | bool b => cases b with
    | true => exact onGrd_b.trans (f25_g11_2_true call k)
    | false => exact onGrd_b.trans (f25_g11_2_false call k)
  | _ => kernel_rfl
noncomputable def f25_r11 (call : Handle) (k : Nat) (x1 x3 x4 x5 : Value) (H : GH) : M (Value × GH) :=
  (f25_g11_2 call k x4 x1 x3 x5 H)
theorem f25_r11_eq (call : Handle) (k : Nat) : g25 call k [1,1,1,1,1,1,0,1,0,0] (FF 77 d) H (hSeq (g25 call k [1,1,1,1,1,1,0,1,0,1]) (hSeq (g25 call k [1,1,1,1,1,1,1]) (hFin Tryd.prog Tryd.f25))) = f25_r11 call k (d 1) (d 3) (d 4) (d 5) H := by
  unfold f25_r11
  rw [n25_30]
  rw [o25_s 0 2, s25_17]
  generalize e : (FG 77 d [(39, (d 4)), (38, (d 4))]) = a
  rw [show a = (FG 77 (gf a) [(39, (d 4))]) from (FG_eq (by subst e; exact FG_len) (FS_cons (by subst e; kernel_rfl) (FS_nil))).symm]
  exact (f25_g11_2_eq (d := gf a) call k).trans (by subst e; kernel_rfl)
noncomputable def f25_r10 (call : Handle) (k : Nat) (x1 x3 x4 x5 : Value) (H : GH) : M (Value × GH) :=
  onV (oFieldAddr Tryd.prog 80 x3 2) fun v1 =>
  onV (gLoad Tryd.prog 4 v1 H) fun v2 =>
  onBool (asB v2)
  ((f25_r11 call k x1 x3 x4 x5 H))
  ((f25_r13 call k x1 x3 x4 x5 H))
theorem f25_r10_eq (call : Handle) (k : Nat) : g25 call k [1,1,1,1,1,1] (FF 77 d) H (hFin Tryd.prog Tryd.f25) = f25_r10 call k (d 1) (d 3) (d 4) (d 5) H := by
  unfold f25_r10
  rw [n25_24]
  rw [n25_25]
  rw [n25_26]
  rw [s25_16]
  refine onV_c fun v1 => ?_
  refine onV_c fun v2 => ?_
  rw [hSeq_n]
  rw [n25_27]
  refine onBool_cc (by kernel_rfl) ?_ ?_
  · rw [n25_28]
    generalize e : (FG 77 d [(37, v2), (36, v1)]) = a
    rw [show a = (FF 77 (gf a)) from (FF_gf (by subst e; exact FG_len)).symm]
    exact (f25_r11_eq (d := gf a) call k).trans (by subst e; kernel_rfl)
  · rw [n25_29]
    rw [hSeq_n]
    generalize e : (FG 77 d [(37, v2), (36, v1)]) = a
    rw [show a = (FF 77 (gf a)) from (FF_gf (by subst e; exact FG_len)).symm]
    exact (f25_r13_eq (d := gf a) call k).trans (by subst e; kernel_rfl)
noncomputable def f25_g8_2 (call : Handle) (k : Nat) (x28 : Value) (x1 x3 x5 : Value) (H : GH) : M (Value × GH) :=
 onBool (asB x28)
  (onV (oFieldAddr Tryd.prog 48 x1 2) fun v1 =>
  onV (gLoad Tryd.prog 46 v1 H) fun v2 =>
  onCall 0 call (.func (.func 34) #[] #[]) [v2] H fun v3 H4 =>
  onV ((oBin Tryd.prog .eql 28 v3 (.int .i64 0)).filter closed) fun v5 =>
  onV (oFieldAddr Tryd.prog 48 x5 2) fun v6 =>
  onH (gStore Tryd.prog 46 v6 (.agg #[(.int .u8 0), (.int .i64 0)]) H4) fun H7 =>
  (f25_r10 call k x1 x3 v5 x5 H7))
  (onV (oFieldAddr Tryd.prog 48 x5 2) fun v1 =>
  onH (gStore Tryd.prog 46 v1 (.agg #[(.int .u8 0), (.int .i64 0)]) H) fun H2 =>
  (f25_r10 call k x1 x3 (.bool false) x5 H2))
theorem f25_g8_2_true (call : Handle) (k : Nat) : o25 0 call [1,1,1,1,1,0,1,0,0] 2 (FG 77 d [(28, (.bool true))]) H ((hSeq (g25 call k [1,1,1,1,1,0,1,0,1]) (hSeq (g25 call k [1,1,1,1,1,1]) (hFin Tryd.prog Tryd.f25))) .normal) =
  onV (oFieldAddr Tryd.prog 48 (d 1) 2) fun v1 =>
  onV (gLoad Tryd.prog 46 v1 H) fun v2 =>
  onCall 0 call (.func (.func 34) #[] #[]) [v2] H fun v3 H4 =>
  onV ((oBin Tryd.prog .eql 28 v3 (.int .i64 0)).filter closed) fun v5 =>
  onV (oFieldAddr Tryd.prog 48 (d 5) 2) fun v6 =>
  onH (gStore Tryd.prog 46 v6 (.agg #[(.int .u8 0), (.int .i64 0)]) H4) fun H7 =>
  (f25_r10 call k (d 1) (d 3) v5 (d 5) H7) := by
  rw [s25_12]
  refine onV_c fun v1 => ?_
  refine onV_c fun v2 => ?_
  refine onCall_c fun v3 H4 => ?_
  refine onV_c fun v5 => ?_
  rw [hSeq_n]
  rw [n25_23]
  rw [s25_13]
  refine onV_c fun v6 => ?_
  refine onH_c fun H7 => ?_
  rw [hSeq_n]
  generalize e : (FG 77 d [(35, v6), (34, (.agg #[(.int .u8 0), (.int .i64 0)])), (4, v5), (33, v5), (32, v5), (31, v3), (30, v2), (29, v1), (28, (.bool true))]) = a
  rw [show a = (FF 77 (gf a)) from (FF_gf (by subst e; exact FG_len)).symm]
  exact (f25_r10_eq (d := gf a) call k).trans (by subst e; kernel_rfl)
theorem f25_g8_2_false (call : Handle) (k : Nat) : o25 0 call [1,1,1,1,1,0,1,0,0] 2 (FG 77 d [(28, (.bool false))]) H ((hSeq (g25 call k [1,1,1,1,1,0,1,0,1]) (hSeq (g25 call k [1,1,1,1,1,1]) (hFin Tryd.prog Tryd.f25))) .normal) =
  onV (oFieldAddr Tryd.prog 48 (d 5) 2) fun v1 =>
  onH (gStore Tryd.prog 46 v1 (.agg #[(.int .u8 0), (.int .i64 0)]) H) fun H2 =>
  (f25_r10 call k (d 1) (d 3) (.bool false) (d 5) H2) := by
  rw [s25_14]
  rw [hSeq_n]
  rw [n25_23]
  rw [s25_15]
  refine onV_c fun v1 => ?_
  refine onH_c fun H2 => ?_
  rw [hSeq_n]
  generalize e : (FG 77 d [(35, v1), (34, (.agg #[(.int .u8 0), (.int .i64 0)])), (4, (.bool false)), (33, (.bool false)), (32, undef), (31, undef), (30, undef), (29, undef), (28, (.bool false))]) = a
  rw [show a = (FF 77 (gf a)) from (FF_gf (by subst e; exact FG_len)).symm]
  exact (f25_r10_eq (d := gf a) call k).trans (by subst e; kernel_rfl)
theorem f25_g8_2_eq (call : Handle) (k : Nat) : onGrd true xg (o25 0 call [1,1,1,1,1,0,1,0,0] 2 (FG 77 d [(28, xg)]) H ((hSeq (g25 call k [1,1,1,1,1,0,1,0,1]) (hSeq (g25 call k [1,1,1,1,1,1]) (hFin Tryd.prog Tryd.f25))) .normal)) =
  f25_g8_2 call k xg (d 1) (d 3) (d 5) H := by
  cases xg with
  | bool b => cases b with
    | true => exact onGrd_b.trans (f25_g8_2_true call k)
    | false => exact onGrd_b.trans (f25_g8_2_false call k)
  | _ => kernel_rfl
noncomputable def f25_r7 (call : Handle) (k : Nat) (x1 x3 x4 x5 : Value) (H : GH) : M (Value × GH) :=
  onV (oFieldAddr Tryd.prog 80 x3 1) fun v1 =>
  onV (gLoad Tryd.prog 4 v1 H) fun v2 =>
  onBool (asB v2)
  ((f25_g8_2 call k x4 x1 x3 x5 H))
  ((f25_r10 call k x1 x3 x4 x5 H))
theorem f25_r7_eq (call : Handle) (k : Nat) : g25 call k [1,1,1,1,1] (FF 77 d) H (hFin Tryd.prog Tryd.f25) = f25_r7 call k (d 1) (d 3) (d 4) (d 5) H := by
  unfold f25_r7
  rw [n25_15]
  rw [n25_16]
  rw [n25_17]
  rw [s25_6]
  refine onV_c fun v1 => ?_
  refine onV_c fun v2 => ?_
  rw [hSeq_n]
  rw [n25_18]
  refine onBool_cc (by kernel_rfl) ?_ ?_
  · rw [n25_19]
    rw [n25_20]
    rw [o25_s 0 2, s25_7]
    generalize e : (FG 77 d [(28, (d 4)), (27, (d 4)), (26, v2), (25, v1)]) = a
    rw [show a = (FG 77 (gf a) [(28, (d 4))]) from (FG_eq (by subst e; exact FG_len) (FS_cons (by subst e; kernel_rfl) (FS_nil))).symm]
    exact (f25_g8_2_eq (d := gf a) call k).trans (by subst e; kernel_rfl)
  · rw [n25_21]
    rw [hSeq_n]
    generalize e : (FG 77 d [(26, v2), (25, v1)]) = a
    rw [show a = (FF 77 (gf a)) from (FF_gf (by subst e; exact FG_len)).symm]
    exact (f25_r10_eq (d := gf a) call k).trans (by subst e; kernel_rfl)
noncomputable def f25_g5_2 (call : Handle) (k : Nat) (x19 : Value) (x1 x3 x5 : Value) (H : GH) : M (Value × GH) :=
 onBool (asB x19)
  (onV (oFieldAddr Tryd.prog 48 x1 1) fun v1 =>
  onV (gLoad Tryd.prog 43 v1 H) fun v2 =>
  onV ((oBin Tryd.prog .leq 43 v2 (.int .u8 1)).filter closed) fun v3 =>
  onV (oFieldAddr Tryd.prog 48 x5 1) fun v4 =>
  onH (gStore Tryd.prog 43 v4 (.int .u8 0) H) fun H5 =>
  (f25_r7 call k x1 x3 v3 x5 H5))
  (onV (oFieldAddr Tryd.prog 48 x5 1) fun v1 =>
  onH (gStore Tryd.prog 43 v1 (.int .u8 0) H) fun H2 =>
  (f25_r7 call k x1 x3 (.bool false) x5 H2))
theorem f25_g5_2_true (call : Handle) (k : Nat) : o25 0 call [1,1,1,1,0,1,0,0] 2 (FG 77 d [(19, (.bool true))]) H ((hSeq (g25 call k [1,1,1,1,0,1,0,1]) (hSeq (g25 call k [1,1,1,1,1]) (hFin Tryd.prog Tryd.f25))) .normal) =
  onV (oFieldAddr Tryd.prog 48 (d 1) 1) fun v1 =>
  onV (gLoad Tryd.prog 43 v1 H) fun v2 =>
  onV ((oBin Tryd.prog .leq 43 v2 (.int .u8 1)).filter closed) fun v3 =>
  onV (oFieldAddr Tryd.prog 48 (d 5) 1) fun v4 =>
  onH (gStore Tryd.prog 43 v4 (.int .u8 0) H) fun H5 =>
  (f25_r7 call k (d 1) (d 3) v3 (d 5) H5) := by
  rw [s25_8]
  refine onV_c fun v1 => ?_
  refine onV_c fun v2 => ?_
  refine onV_c fun v3 => ?_
  rw [hSeq_n]
  rw [n25_22]
  rw [s25_9]
  refine onV_c fun v4 => ?_
  refine onH_c fun H5 => ?_
  rw [hSeq_n]
  generalize e : (FG 77 d [(24, v4), (4, v3), (23, v3), (22, v3), (21, v2), (20, v1), (19, (.bool true))]) = a
  rw [show a = (FF 77 (gf a)) from (FF_gf (by subst e; exact FG_len)).symm]
  exact (f25_r7_eq (d := gf a) call k).trans (by subst e; kernel_rfl)
theorem f25_g5_2_false (call : Handle) (k : Nat) : o25 0 call [1,1,1,1,0,1,0,0] 2 (FG 77 d [(19, (.bool false))]) H ((hSeq (g25 call k [1,1,1,1,0,1,0,1]) (hSeq (g25 call k [1,1,1,1,1]) (hFin Tryd.prog Tryd.f25))) .normal) =
  onV (oFieldAddr Tryd.prog 48 (d 5) 1) fun v1 =>
  onH (gStore Tryd.prog 43 v1 (.int .u8 0) H) fun H2 =>
  (f25_r7 call k (d 1) (d 3) (.bool false) (d 5) H2) := by
  rw [s25_10]
  rw [hSeq_n]
  rw [n25_22]
  rw [s25_11]
  refine onV_c fun v1 => ?_
  refine onH_c fun H2 => ?_
  rw [hSeq_n]
  generalize e : (FG 77 d [(24, v1), (4, (.bool false)), (23, (.bool false)), (22, undef), (21, undef), (20, undef), (19, (.bool false))]) = a
  rw [show a = (FF 77 (gf a)) from (FF_gf (by subst e; exact FG_len)).symm]
  exact (f25_r7_eq (d := gf a) call k).trans (by subst e; kernel_rfl)
theorem f25_g5_2_eq (call : Handle) (k : Nat) : onGrd true xg (o25 0 call [1,1,1,1,0,1,0,0] 2 (FG 77 d [(19, xg)]) H ((hSeq (g25 call k [1,1,1,1,0,1,0,1]) (hSeq (g25 call k [1,1,1,1,1]) (hFin Tryd.prog Tryd.f25))) .normal)) =
  f25_g5_2 call k xg (d 1) (d 3) (d 5) H := by
  cases xg with
  | bool b => cases b with
    | true => exact onGrd_b.trans (f25_g5_2_true call k)
    | false => exact onGrd_b.trans (f25_g5_2_false call k)
  | _ => kernel_rfl
noncomputable def f25_r5 (call : Handle) (k : Nat) (x1 x3 x4 x5 : Value) (H : GH) : M (Value × GH) :=
  (f25_g5_2 call k x4 x1 x3 x5 H)
theorem f25_r5_eq (call : Handle) (k : Nat) : g25 call k [1,1,1,1,0,1,0,0] (FF 77 d) H (hSeq (g25 call k [1,1,1,1,0,1,0,1]) (hSeq (g25 call k [1,1,1,1,1]) (hFin Tryd.prog Tryd.f25))) = f25_r5 call k (d 1) (d 3) (d 4) (d 5) H := by
  unfold f25_r5
  rw [n25_14]
  rw [o25_s 0 2, s25_5]
  generalize e : (FG 77 d [(19, (d 4)), (18, (d 4))]) = a
  rw [show a = (FG 77 (gf a) [(19, (d 4))]) from (FG_eq (by subst e; exact FG_len) (FS_cons (by subst e; kernel_rfl) (FS_nil))).symm]
  exact (f25_g5_2_eq (d := gf a) call k).trans (by subst e; kernel_rfl)
noncomputable def f25_r3 (call : Handle) (k : Nat) (x1 x3 x4 x5 : Value) (H : GH) : M (Value × GH) :=
  onV (oFieldAddr Tryd.prog 48 x5 0) fun v1 =>
  onH (gStore Tryd.prog 42 v1 (.int .u8 0) H) fun H2 =>
  onV (oFieldAddr Tryd.prog 48 x5 4) fun v3 =>
  onH (gStore Tryd.prog 3 v3 (.int .i64 0) H2) fun H4 =>
  onV (oFieldAddr Tryd.prog 80 x3 0) fun v5 =>
  onV (gLoad Tryd.prog 4 v5 H4) fun v6 =>
  onBool (asB v6)
  ((f25_r5 call k x1 x3 x4 x5 H4))
  ((f25_r7 call k x1 x3 x4 x5 H4))
theorem f25_r3_eq (call : Handle) (k : Nat) : g25 call k [1,1,1,0] (FF 77 d) H (hSeq (g25 call k [1,1,1,1]) (hFin Tryd.prog Tryd.f25)) = f25_r3 call k (d 1) (d 3) (d 4) (d 5) H := by
  unfold f25_r3
  rw [n25_7]
  rw [s25_3]
  refine onV_c fun v1 => ?_
  refine onH_c fun H2 => ?_
  refine onV_c fun v3 => ?_
  refine onH_c fun H4 => ?_
  rw [hSeq_n]
  rw [n25_8]
  rw [n25_9]
  rw [n25_10]
  rw [s25_4]
  refine onV_c fun v5 => ?_
  refine onV_c fun v6 => ?_
  rw [hSeq_n]
  rw [n25_11]
  refine onBool_cc (by kernel_rfl) ?_ ?_
  · rw [n25_12]
    generalize e : (FG 77 d [(17, v6), (16, v5), (15, v3), (14, v1)]) = a
    rw [show a = (FF 77 (gf a)) from (FF_gf (by subst e; exact FG_len)).symm]
    exact (f25_r5_eq (d := gf a) call k).trans (by subst e; kernel_rfl)
  · rw [n25_13]
    rw [hSeq_n]
    generalize e : (FG 77 d [(17, v6), (16, v5), (15, v3), (14, v1)]) = a
    rw [show a = (FF 77 (gf a)) from (FF_gf (by subst e; exact FG_len)).symm]
    exact (f25_r7_eq (d := gf a) call k).trans (by subst e; kernel_rfl)
noncomputable def f25_sh (call : Handle) (k : Nat) (p0 : Value) (H : GH) : M (Value × GH) :=
  onCall 2 call (.func (.func 33) #[] #[]) [] (GH.push H (.row (Value.cells p0).toList 48 false)) fun v1 H2 =>
  onV (gLoad Tryd.prog 42 (.pointer (some ⟨H.n, 0, none⟩)) H2) fun v3 =>
  onV (gLookup Tryd.prog 82 v1 v3 true H2) fun v4 =>
  onV (oExtract v4 0) fun v5 =>
  onV (oExtract v4 1) fun v6 =>
  onH (gStore Tryd.prog 80 (.pointer (some ⟨H2.n, 0, none⟩)) v5 (GH.push H2 (.row [(.bool false), (.bool false), (.bool false), (.bool false)] 80 false))) fun H7 =>
  onV (gLoad Tryd.prog 48 (.pointer (some ⟨H.n, 0, none⟩)) H7) fun v8 =>
  onH (gStore Tryd.prog 48 (.pointer (some ⟨H7.n, 0, none⟩)) v8 (GH.push H7 (.row [(.int .u8 0), (.int .u8 0), (.int .u8 0), (.int .i64 0), (.int .u8 0), (.int .i64 0)] 48 false))) fun H9 =>
  (f25_r3 call k (.pointer (some ⟨H.n, 0, none⟩)) (.pointer (some ⟨H2.n, 0, none⟩)) v6 (.pointer (some ⟨H7.n, 0, none⟩)) H9)
theorem f25_run (call : Handle) (k : Nat) (p0 : Value) (H : GH) : g25 call k [] (FG 77 (fun _ => undef) [(0, p0)]) H (hFin Tryd.prog Tryd.f25) = f25_sh call k p0 H := by
  unfold f25_sh
  rw [n25_0]
  rw [n25_1]
  rw [s25_0]
  rw [hSeq_n]
  rw [n25_2]
  rw [n25_3]
  rw [s25_1]
  refine onCall_c fun v1 H2 => ?_
  refine onV_c fun v3 => ?_
  refine onV_c fun v4 => ?_
  refine onV_c fun v5 => ?_
  refine onV_c fun v6 => ?_
  refine onH_c fun H7 => ?_
  rw [hSeq_n]
  rw [n25_4]
  rw [n25_5]
  rw [s25_2]
  refine onV_c fun v8 => ?_
  refine onH_c fun H9 => ?_
  rw [hSeq_n]
  rw [n25_6]
  generalize e : (FG 77 (fun _ => undef) [(5, (.pointer (some ⟨H7.n, 0, none⟩))), (13, v8), (4, v6), (3, (.pointer (some ⟨H2.n, 0, none⟩))), (12, v6), (11, v5), (6, v4), (10, v4), (9, v3), (8, (.pointer (some ⟨H.n, 0, none⟩))), (7, v1), (2, (.int .i64 0)), (1, (.pointer (some ⟨H.n, 0, none⟩))), (0, p0)]) = a
  rw [show a = (FF 77 (gf a)) from (FF_gf (by subst e; exact FG_len)).symm]
  exact (f25_r3_eq (d := gf a) call k).trans (by subst e; kernel_rfl)
theorem f25_eq (call : Handle) (k : Nat) (p0 : Value) (H : GH) : gFunc Tryd.prog call k Tryd.f25 [p0] H = f25_sh call k p0 H :=
  Eq.trans (by kernel_rfl) (f25_run call k p0 H)
end
noncomputable def g26 {β : Type} (call : Handle) (k : Nat) (p : List Nat) : GA → GH → Kont β → M β := gCode Tryd.prog call k (fAt Tryd.f26 p)
noncomputable def o26 {β : Type} (d : Nat) (call : Handle) (p : List Nat) (i : Nat) : GA → GH → (GA → GH → M β) → M β := gOps Tryd.prog d call (opsAt (fAt Tryd.f26 p)) i ((opsAt (fAt Tryd.f26 p)).drop i)
noncomputable def t26 {β : Type} (d : Nat) (call : Handle) (p : List Nat) (i n : Nat) : GA → GH → (GA → GH → M β) → M β := gOps Tryd.prog d call (opsAt (fAt Tryd.f26 p)) i (((opsAt (fAt Tryd.f26 p)).drop i).take n)
theorem o26_s {β : Type} {d : Nat} {call : Handle} {p : List Nat} {a : GA} {H : GH} {K : GA → GH → M β} (i n : Nat) : o26 d call p i a H K = t26 d call p i n a H fun a H => o26 d call p (i + n) a H K := gOps_split i n
section
variable {β : Type} {call : Handle} {k : Nat} {a : GA} {K : Kont β} {K' : GA → GH → M β}
variable {d : Nat → Value} {xg : Value}
variable {p0 p1 p2 : Value}
variable {v1 v2 v3 v4 v5 v7 : Value}
variable {H H6 : GH}
theorem n26_0 : g26 call k [] a H K = g26 call k [0] a H (hSeq (g26 call k [1]) K) := at_seq (by kernel_rfl)
theorem n26_1 : g26 call k [0] a H K = o26 0 call [0] 0 a H (K .normal) := at_region (by kernel_rfl)
theorem n26_2 : g26 call k [1] a H K = g26 call k [1,0] a H (hBlock 0 K) := at_block (by kernel_rfl)
theorem n26_3 : g26 call k [1,0] a H K = gLoop (g26 call k [1,0,0]) K k a H := at_loop (by kernel_rfl)
theorem n26_4 : g26 call k [1,0,0] a H K = g26 call k [1,0,0,0] a H (hSeq (g26 call k [1,0,0,1]) K) := at_seq (by kernel_rfl)
theorem n26_5 : g26 call k [1,0,0,0] a H K = g26 call k [1,0,0,0,0] a H (hSeq (g26 call k [1,0,0,0,1]) K) := at_seq (by kernel_rfl)
theorem n26_6 : g26 call k [1,0,0,0,0] a H K = o26 0 call [1,0,0,0,0] 0 a H (K .normal) := at_region (by kernel_rfl)
theorem n26_7 : g26 call k [1,0,0,0,1] a H K = onBool (asB (GA.eval a (.tmp 9))) (g26 call k [1,0,0,0,1,0] a H K) (g26 call k [1,0,0,0,1,1] a H K) := at_cond (by kernel_rfl)
theorem n26_8 : g26 call k [1,0,0,0,1,0] a H K = K .normal a H := at_skip (by kernel_rfl)
theorem n26_9 : g26 call k [1,0,0,1] a H K = g26 call k [1,0,0,1,0] a H (hSeq (g26 call k [1,0,0,1,1]) K) := at_seq (by kernel_rfl)
theorem n26_10 : g26 call k [1,0,0,1,0] a H K = g26 call k [1,0,0,1,0,0] a H (hBlock 1 K) := at_block (by kernel_rfl)
theorem n26_11 : g26 call k [1,0,0,1,0,0] a H K = g26 call k [1,0,0,1,0,0,0] a H (hSeq (g26 call k [1,0,0,1,0,0,1]) K) := at_seq (by kernel_rfl)
theorem n26_12 : g26 call k [1,0,0,1,0,0,0] a H K = o26 1 call [1,0,0,1,0,0,0] 0 a H (K .normal) := at_region (by kernel_rfl)
theorem n26_13 : g26 call k [1,0,0,1,0,0,1] a H K = g26 call k [1,0,0,1,0,0,1,0] a H (hSeq (g26 call k [1,0,0,1,0,0,1,1]) K) := at_seq (by kernel_rfl)
theorem n26_14 : g26 call k [1,0,0,0,1,1] a H K = K (.exit 0) a H := at_exit (by kernel_rfl)
theorem n26_15 : g26 call k [1,0,0,1,0,0,1,0] a H K = o26 0 call [1,0,0,1,0,0,1,0] 0 a H (K .normal) := at_region (by kernel_rfl)
theorem n26_16 : g26 call k [1,0,0,1,0,0,1,1] a H K = onBool (asB (GA.eval a (.tmp 30))) (g26 call k [1,0,0,1,0,0,1,1,0] a H K) (g26 call k [1,0,0,1,0,0,1,1,1] a H K) := at_cond (by kernel_rfl)
theorem n26_17 : g26 call k [1,0,0,1,0,0,1,1,0] a H K = K .ret a H := at_ret (by kernel_rfl)
theorem n26_18 : g26 call k [1,0,0,1,0,0,1,1,1] a H K = K .normal a H := at_skip (by kernel_rfl)
theorem n26_19 : g26 call k [1,0,0,1,1] a H K = o26 0 call [1,0,0,1,1] 0 a H (K .normal) := at_region (by kernel_rfl)
theorem s26_0 : o26 0 call [0] 0 (FG 31 (fun _ => undef) [(2, p2), (1, p1), (0, p0)]) H K' =
  K' (FG 31 (fun _ => undef) [(4, (.int .i64 0)), (2, p2), (1, p1), (0, p0)]) H := by kernel_rfl
theorem s26_1 : o26 0 call [1,0,0,0,0] 0 (FF 31 d) H K' =
  onV (gLoad Tryd.prog 26 (d 1) H) fun v1 =>
  onV (oLen Tryd.prog 26 v1) fun v2 =>
  onV ((oBin Tryd.prog .lss 3 (d 4) v2).filter closed) fun v3 =>
  K' (FG 31 d [(9, v3), (8, v2), (7, v1), (6, (d 4))]) H := by kernel_rfl
theorem s26_2 : o26 1 call [1,0,0,1,0,0,0] 0 (FG 31 d [(9, v3), (8, v2), (7, v1), (6, (d 4))]) H K' =
  onV (gLoad Tryd.prog 3 (d 2) H) fun v4 =>
  onV (gLoad Tryd.prog 26 (d 1) H) fun v5 =>
  onV (oSlice Tryd.prog 26 v5 (some (d 4)) none none) fun v6 =>
  onV (oLen Tryd.prog 26 v6) fun v7 =>
  onV ((oMinMax Tryd.prog false [v4, v7]).filter closed) fun v8 =>
  K' (FG 31 d [(5, v8), (18, v8), (17, v7), (16, v6), (15, (d 4)), (14, v5), (13, v4), (9, v3), (8, v2), (7, v1), (6, (d 4))]) H := by kernel_rfl
theorem s26_3 : o26 0 call [1,0,0,1,0,0,1,0] 0 (FF 31 d) H K' =
  onV (gLoad Tryd.prog 26 (d 1) H) fun v1 =>
  onV ((oBin Tryd.prog .add 3 (d 4) (d 5)).filter closed) fun v2 =>
  onV ((oBin Tryd.prog .add 3 (d 4) (d 5)).filter closed) fun v3 =>
  onV (oSlice Tryd.prog 26 v1 (some (d 4)) (some v2) (some v3)) fun v4 =>
  onCall 0 call (d 0) [v4] H fun v5 H6 =>
  onV ((oUn Tryd.prog .not v5).filter closed) fun v7 =>
  K' (FG 31 d [(30, v7), (29, v5), (28, v4), (27, v3), (26, (d 5)), (25, (d 4)), (24, v2), (23, (d 5)), (22, (d 4)), (21, (d 4)), (20, v1), (19, (d 0))]) H6 := by kernel_rfl
theorem s26_4 : o26 0 call [1,0,0,1,1] 0 (FG 31 d [(30, v7), (29, v5), (28, v4), (27, v3), (26, (d 5)), (25, (d 4)), (24, v2), (23, (d 5)), (22, (d 4)), (21, (d 4)), (20, v1), (19, (d 0))]) H6 K' =
  onV (gLoad Tryd.prog 3 (d 2) H6) fun v8 =>
  onV ((oBin Tryd.prog .add 3 (d 4) v8).filter closed) fun v9 =>
  K' (FG 31 d [(4, v9), (12, v9), (11, v8), (10, (d 4)), (30, v7), (29, v5), (28, v4), (27, v3), (26, (d 5)), (25, (d 4)), (24, v2), (23, (d 5)), (22, (d 4)), (21, (d 4)), (20, v1), (19, (d 0))]) H6 := by kernel_rfl
def f26_l1_P (ag : AG) (sg : Sg4) : Prop := ∀ (d : Nat → Value) (H : GH), ag (FF 31 d) H = sg (d 0) (d 1) (d 2) (d 4) H
theorem f26_l1_at {ag : AG} {sg : Sg4} (h : f26_l1_P ag sg) : ag (FF 31 d) H = sg (d 0) (d 1) (d 2) (d 4) H := h d H
noncomputable def f26_r4 (call : Handle) (k : Nat) (sg_l1 : Sg4) (x0 x1 x2 x4 x5 : Value) (H : GH) : M (Value × GH) :=
  onV (gLoad Tryd.prog 26 x1 H) fun v1 =>
  onV ((oBin Tryd.prog .add 3 x4 x5).filter closed) fun v2 =>
  onV ((oBin Tryd.prog .add 3 x4 x5).filter closed) fun v3 =>
  onV (oSlice Tryd.prog 26 v1 (some x4) (some v2) (some v3)) fun v4 =>
  onCall 0 call x0 [v4] H fun v5 H6 =>
  onV ((oUn Tryd.prog .not v5).filter closed) fun v7 =>
  onBool (asB v7)
  (some [((.tuple #[]), H6)])
  (onV (gLoad Tryd.prog 3 x2 H6) fun v8 =>
  onV ((oBin Tryd.prog .add 3 x4 v8).filter closed) fun v9 =>
  (sg_l1 x0 x1 x2 v9 H6))
theorem f26_r4_eq (call : Handle) (k : Nat) (ag_l1 : AG) (sg_l1 : Sg4) (h_l1 : f26_l1_P ag_l1 sg_l1) : g26 call k [1,0,0,1,0,0,1,0] (FF 31 d) H (hSeq (g26 call k [1,0,0,1,0,0,1,1]) (hBlock 1 (hSeq (g26 call k [1,0,0,1,1]) (hLoop ag_l1 (hBlock 0 (hFin Tryd.prog Tryd.f26)))))) = f26_r4 call k sg_l1 (d 0) (d 1) (d 2) (d 4) (d 5) H := by
  unfold f26_r4
  rw [n26_15]
  rw [s26_3]
  refine onV_c fun v1 => ?_
  refine onV_c fun v2 => ?_
  refine onV_c fun v3 => ?_
  refine onV_c fun v4 => ?_
  refine onCall_c fun v5 H6 => ?_
  refine onV_c fun v7 => ?_
  rw [hSeq_n]
  rw [n26_16]
  refine onBool_cc (by kernel_rfl) ?_ ?_
  · rw [n26_17]
    rw [hBlock_r, hSeq_r, hLoop_r, hBlock_r]
    kernel_rfl
  · rw [n26_18]
    rw [hBlock_n]
    rw [hSeq_n]
    rw [n26_19]
    rw [s26_4]
    refine onV_c fun v8 => ?_
    refine onV_c fun v9 => ?_
    rw [hLoop_n]
    generalize e : (FG 31 d [(4, v9), (12, v9), (11, v8), (10, (d 4)), (30, v7), (29, v5), (28, v4), (27, v3), (26, (d 5)), (25, (d 4)), (24, v2), (23, (d 5)), (22, (d 4)), (21, (d 4)), (20, v1), (19, (d 0))]) = a
    rw [show a = (FF 31 (gf a)) from (FF_gf (by subst e; exact FG_len)).symm]
    exact (f26_l1_at (d := gf a) h_l1).trans (by subst e; kernel_rfl)
noncomputable def f26_l1b (call : Handle) (k : Nat) (sg_l1 : Sg4) (x0 x1 x2 x4 : Value) (H : GH) : M (Value × GH) :=
  onV (gLoad Tryd.prog 26 x1 H) fun v1 =>
  onV (oLen Tryd.prog 26 v1) fun v2 =>
  onV ((oBin Tryd.prog .lss 3 x4 v2).filter closed) fun v3 =>
  onBool (asB v3)
  (onV (gLoad Tryd.prog 3 x2 H) fun v4 =>
  onV (gLoad Tryd.prog 26 x1 H) fun v5 =>
  onV (oSlice Tryd.prog 26 v5 (some x4) none none) fun v6 =>
  onV (oLen Tryd.prog 26 v6) fun v7 =>
  onV ((oMinMax Tryd.prog false [v4, v7]).filter closed) fun v8 =>
  (f26_r4 call k (sg_l1) x0 x1 x2 x4 v8 H))
  (some [((.tuple #[]), H)])
theorem f26_l1b_eq (call : Handle) (k : Nat) (ag_l1 : AG) (sg_l1 : Sg4) (h_l1 : f26_l1_P ag_l1 sg_l1) : g26 call k [1,0,0] (FF 31 d) H (hLoop ag_l1 (hBlock 0 (hFin Tryd.prog Tryd.f26))) = f26_l1b call k sg_l1 (d 0) (d 1) (d 2) (d 4) H := by
  unfold f26_l1b
  rw [n26_4]
  rw [n26_5]
  rw [n26_6]
  rw [s26_1]
  refine onV_c fun v1 => ?_
  refine onV_c fun v2 => ?_
  refine onV_c fun v3 => ?_
  rw [hSeq_n]
  rw [n26_7]
  refine onBool_cc (by kernel_rfl) ?_ ?_
  · rw [n26_8]
    rw [hSeq_n]
    rw [n26_9]
    rw [n26_10]
    rw [n26_11]
    rw [n26_12]
    rw [s26_2]
    refine onV_c fun v4 => ?_
    refine onV_c fun v5 => ?_
    refine onV_c fun v6 => ?_
    refine onV_c fun v7 => ?_
    refine onV_c fun v8 => ?_
    rw [hSeq_n]
    rw [n26_13]
    generalize e : (FG 31 d [(5, v8), (18, v8), (17, v7), (16, v6), (15, (d 4)), (14, v5), (13, v4), (9, v3), (8, v2), (7, v1), (6, (d 4))]) = a
    rw [show a = (FF 31 (gf a)) from (FF_gf (by subst e; exact FG_len)).symm]
    exact (f26_r4_eq (d := gf a) call k ag_l1 sg_l1 h_l1).trans (by subst e; kernel_rfl)
  · rw [n26_14]
    rw [hSeq_e, hLoop_e, hBlock_hit]
    kernel_rfl
noncomputable def f26_l1 (call : Handle) (k : Nat) : Nat → Value → Value → Value → Value → GH → M (Value × GH)
  | 0, _, _, _, _, _ => none
  | r + 1, x0, x1, x2, x4, H => f26_l1b call k (f26_l1 call k r) x0 x1 x2 x4 H
theorem f26_l1_eq (call : Handle) (k : Nat) : ∀ (r : Nat), f26_l1_P (gLoop (g26 call k [1,0,0]) (hBlock 0 (hFin Tryd.prog Tryd.f26)) r) (f26_l1 call k r) := by
  intro r
  induction r with
  | zero => unfold f26_l1_P; intros; rfl
  | succ r ih => unfold f26_l1_P; intros; exact f26_l1b_eq call k _ _ ih
noncomputable def f26_sh (call : Handle) (k : Nat) (p0 p1 p2 : Value) (H : GH) : M (Value × GH) :=
  (f26_l1 call k k p0 p1 p2 (.int .i64 0) H)
theorem f26_run (call : Handle) (k : Nat) (p0 p1 p2 : Value) (H : GH) : g26 call k [] (FG 31 (fun _ => undef) [(2, p2), (1, p1), (0, p0)]) H (hFin Tryd.prog Tryd.f26) = f26_sh call k p0 p1 p2 H := by
  unfold f26_sh
  rw [n26_0]
  rw [n26_1]
  rw [s26_0]
  rw [hSeq_n]
  rw [n26_2]
  rw [n26_3]
  generalize e : (FG 31 (fun _ => undef) [(4, (.int .i64 0)), (2, p2), (1, p1), (0, p0)]) = a
  rw [show a = (FF 31 (gf a)) from (FF_gf (by subst e; exact FG_len)).symm]
  exact (f26_l1_at (d := gf a) (f26_l1_eq call k k)).trans (by subst e; kernel_rfl)
theorem f26_eq (call : Handle) (k : Nat) (p0 p1 p2 : Value) (H : GH) : gFunc Tryd.prog call k Tryd.f26 [p0, p1, p2] H = f26_sh call k p0 p1 p2 H :=
  Eq.trans (by kernel_rfl) (f26_run call k p0 p1 p2 H)
end
noncomputable def g27 {β : Type} (call : Handle) (k : Nat) (p : List Nat) : GA → GH → Kont β → M β := gCode Tryd.prog call k (fAt Tryd.f27 p)
noncomputable def o27 {β : Type} (d : Nat) (call : Handle) (p : List Nat) (i : Nat) : GA → GH → (GA → GH → M β) → M β := gOps Tryd.prog d call (opsAt (fAt Tryd.f27 p)) i ((opsAt (fAt Tryd.f27 p)).drop i)
noncomputable def t27 {β : Type} (d : Nat) (call : Handle) (p : List Nat) (i n : Nat) : GA → GH → (GA → GH → M β) → M β := gOps Tryd.prog d call (opsAt (fAt Tryd.f27 p)) i (((opsAt (fAt Tryd.f27 p)).drop i).take n)
theorem o27_s {β : Type} {d : Nat} {call : Handle} {p : List Nat} {a : GA} {H : GH} {K : GA → GH → M β} (i n : Nat) : o27 d call p i a H K = t27 d call p i n a H fun a H => o27 d call p (i + n) a H K := gOps_split i n
section
variable {β : Type} {call : Handle} {k : Nat} {a : GA} {K : Kont β} {K' : GA → GH → M β}
variable {d : Nat → Value} {xg : Value}
variable {p0 : Value}
variable {v1 v2 v3 : Value}
variable {H : GH}
theorem n27_0 : g27 call k [] a H K = g27 call k [0] a H (hSeq (g27 call k [1]) K) := at_seq (by kernel_rfl)
theorem n27_1 : g27 call k [0] a H K = o27 0 call [0] 0 a H (K .normal) := at_region (by kernel_rfl)
theorem n27_2 : g27 call k [1] a H K = g27 call k [1,0] a H (hSeq (g27 call k [1,1]) K) := at_seq (by kernel_rfl)
theorem n27_3 : g27 call k [1,0] a H K = o27 0 call [1,0] 0 a H (K .normal) := at_region (by kernel_rfl)
theorem n27_4 : g27 call k [1,1] a H K = g27 call k [1,1,0] a H (hSeq (g27 call k [1,1,1]) K) := at_seq (by kernel_rfl)
theorem n27_5 : g27 call k [1,1,0] a H K = g27 call k [1,1,0,0] a H (hSeq (g27 call k [1,1,0,1]) K) := at_seq (by kernel_rfl)
theorem n27_6 : g27 call k [1,1,0,0] a H K = o27 0 call [1,1,0,0] 0 a H (K .normal) := at_region (by kernel_rfl)
theorem n27_7 : g27 call k [1,1,0,1] a H K = onBool (asB (GA.eval a (.tmp 8))) (g27 call k [1,1,0,1,0] a H K) (g27 call k [1,1,0,1,1] a H K) := at_cond (by kernel_rfl)
theorem n27_8 : g27 call k [1,1,0,1,0] a H K = o27 0 call [1,1,0,1,0] 0 a H (K .normal) := at_region (by kernel_rfl)
theorem n27_9 : g27 call k [1,1,0,1,1] a H K = K .normal a H := at_skip (by kernel_rfl)
theorem n27_10 : g27 call k [1,1,1] a H K = g27 call k [1,1,1,0] a H (hSeq (g27 call k [1,1,1,1]) K) := at_seq (by kernel_rfl)
theorem n27_11 : g27 call k [1,1,1,0] a H K = o27 0 call [1,1,1,0] 0 a H (K .normal) := at_region (by kernel_rfl)
theorem n27_12 : g27 call k [1,1,1,1] a H K = K .ret a H := at_ret (by kernel_rfl)
theorem s27_0 : o27 0 call [0] 0 (FG 30 (fun _ => undef) [(0, p0)]) H K' =
  K' (FG 30 (fun _ => undef) [(2, (.slice none 0 0)), (1, (.pointer (some ⟨H.n, 0, none⟩))), (0, p0)]) (GH.push H (.row (Value.cells p0).toList 48 false)) := by kernel_rfl
theorem s27_1 : o27 0 call [1,0] 0 (FG 30 (fun _ => undef) [(2, (.slice none 0 0)), (1, (.pointer (some ⟨H.n, 0, none⟩))), (0, p0)]) (GH.push H (.row (Value.cells p0).toList 48 false)) K' =
  onV (gLoad Tryd.prog 5 (.pointer (some ⟨H.n, 4, none⟩)) (GH.push H (.row (Value.cells p0).toList 48 false))) fun v1 =>
  K' (FG 30 (fun _ => undef) [(3, v1), (5, v1), (4, (.pointer (some ⟨H.n, 4, none⟩))), (2, (.slice none 0 0)), (1, (.pointer (some ⟨H.n, 0, none⟩))), (0, p0)]) (GH.push H (.row (Value.cells p0).toList 48 false)) := by kernel_rfl
theorem s27_2 : o27 0 call [1,1,0,0] 0 (FG 30 (fun _ => undef) [(3, v1), (5, v1), (4, (.pointer (some ⟨H.n, 4, none⟩))), (2, (.slice none 0 0)), (1, (.pointer (some ⟨H.n, 0, none⟩))), (0, p0)]) (GH.push H (.row (Value.cells p0).toList 48 false)) K' =
  onV (gLoad Tryd.prog 42 (.pointer (some ⟨H.n, 0, none⟩)) (GH.push H (.row (Value.cells p0).toList 48 false))) fun v2 =>
  onV ((oBin Tryd.prog .eql 42 v2 (.int .u8 3)).filter closed) fun v3 =>
  K' (FG 30 (fun _ => undef) [(8, v3), (7, v2), (6, (.pointer (some ⟨H.n, 0, none⟩))), (3, v1), (5, v1), (4, (.pointer (some ⟨H.n, 4, none⟩))), (2, (.slice none 0 0)), (1, (.pointer (some ⟨H.n, 0, none⟩))), (0, p0)]) (GH.push H (.row (Value.cells p0).toList 48 false)) := by kernel_rfl
theorem s27_3 : o27 0 call [1,1,0,1,0] 0 (FG 30 (fun _ => undef) [(8, v3), (7, v2), (6, (.pointer (some ⟨H.n, 0, none⟩))), (3, v1), (5, v1), (4, (.pointer (some ⟨H.n, 4, none⟩))), (2, (.slice none 0 0)), (1, (.pointer (some ⟨H.n, 0, none⟩))), (0, p0)]) (GH.push H (.row (Value.cells p0).toList 48 false)) K' =
  onV (gLoad Tryd.prog 3 (.pointer (some ⟨H.n, 5, none⟩)) (GH.push H (.row (Value.cells p0).toList 48 false))) fun v4 =>
  onV ((oBin Tryd.prog .add 3 v4 (.int .i64 16)).filter closed) fun v5 =>
  onV ((oConvert Tryd.prog 3 5 v5).filter closed) fun v6 =>
  K' (FG 30 (fun _ => undef) [(3, v6), (12, v6), (11, v5), (10, v4), (9, (.pointer (some ⟨H.n, 5, none⟩))), (8, v3), (7, v2), (6, (.pointer (some ⟨H.n, 0, none⟩))), (3, v1), (5, v1), (4, (.pointer (some ⟨H.n, 4, none⟩))), (2, (.slice none 0 0)), (1, (.pointer (some ⟨H.n, 0, none⟩))), (0, p0)]) (GH.push H (.row (Value.cells p0).toList 48 false)) := by kernel_rfl
theorem s27_4 : o27 0 call [1,1,1,0] 0 (FF 30 d) H K' =
  onV (oFieldAddr Tryd.prog 48 (d 1) 0) fun v1 =>
  onV (gLoad Tryd.prog 42 v1 H) fun v2 =>
  onV (oFieldAddr Tryd.prog 48 (d 1) 1) fun v3 =>
  onV (gLoad Tryd.prog 43 v3 H) fun v4 =>
  onV ((oBin Tryd.prog .mul 5 (.int .u8 16) v4).filter closed) fun v5 =>
  onV ((oBin Tryd.prog .add 5 v2 v5).filter closed) fun v6 =>
  onV (oFieldAddr Tryd.prog 48 (d 1) 2) fun v7 =>
  onV (oFieldAddr Tryd.prog 46 v7 0) fun v8 =>
  onV (gLoad Tryd.prog 44 v8 H) fun v9 =>
  onV ((oBin Tryd.prog .mul 5 (.int .u8 32) v9).filter closed) fun v10 =>
  onV ((oBin Tryd.prog .add 5 v6 v10).filter closed) fun v11 =>
  onV (oFieldAddr Tryd.prog 48 (d 1) 2) fun v12 =>
  onV (oFieldAddr Tryd.prog 46 v12 1) fun v13 =>
  onV (gLoad Tryd.prog 3 v13 H) fun v14 =>
  onV ((oConvert Tryd.prog 3 5 v14).filter closed) fun v15 =>
  onVH (gBuildSlice Tryd.prog 24 3 [(0, v11), (1, v15), (2, (d 3))] H) fun v16 H17 =>
  K' (FG 30 d [(2, v16), (29, v16), (28, (d 3)), (27, v15), (26, v14), (25, v13), (24, v12), (23, v11), (22, v10), (21, v9), (20, v8), (19, v7), (18, v6), (17, v5), (16, v4), (15, v3), (14, v2), (13, v1)]) H17 := by kernel_rfl
noncomputable def f27_r4 (call : Handle) (k : Nat) (x1 x3 : Value) (H : GH) : M (Value × GH) :=
  onV (oFieldAddr Tryd.prog 48 x1 0) fun v1 =>
  onV (gLoad Tryd.prog 42 v1 H) fun v2 =>
  onV (oFieldAddr Tryd.prog 48 x1 1) fun v3 =>
  onV (gLoad Tryd.prog 43 v3 H) fun v4 =>
  onV ((oBin Tryd.prog .mul 5 (.int .u8 16) v4).filter closed) fun v5 =>
  onV ((oBin Tryd.prog .add 5 v2 v5).filter closed) fun v6 =>
  onV (oFieldAddr Tryd.prog 48 x1 2) fun v7 =>
  onV (oFieldAddr Tryd.prog 46 v7 0) fun v8 =>
  onV (gLoad Tryd.prog 44 v8 H) fun v9 =>
  onV ((oBin Tryd.prog .mul 5 (.int .u8 32) v9).filter closed) fun v10 =>
  onV ((oBin Tryd.prog .add 5 v6 v10).filter closed) fun v11 =>
  onV (oFieldAddr Tryd.prog 48 x1 2) fun v12 =>
  onV (oFieldAddr Tryd.prog 46 v12 1) fun v13 =>
  onV (gLoad Tryd.prog 3 v13 H) fun v14 =>
  onV ((oConvert Tryd.prog 3 5 v14).filter closed) fun v15 =>
  onVH (gBuildSlice Tryd.prog 24 3 [(0, v11), (1, v15), (2, x3)] H) fun v16 H17 =>
  some [(v16, H17)]
theorem f27_r4_eq (call : Handle) (k : Nat) : g27 call k [1,1,1] (FF 30 d) H (hFin Tryd.prog Tryd.f27) = f27_r4 call k (d 1) (d 3) H := by
  unfold f27_r4
  rw [n27_10]
  rw [n27_11]
  rw [s27_4]
  refine onV_c fun v1 => ?_
  refine onV_c fun v2 => ?_
  refine onV_c fun v3 => ?_
  refine onV_c fun v4 => ?_
  refine onV_c fun v5 => ?_
  refine onV_c fun v6 => ?_
  refine onV_c fun v7 => ?_
  refine onV_c fun v8 => ?_
  refine onV_c fun v9 => ?_
  refine onV_c fun v10 => ?_
  refine onV_c fun v11 => ?_
  refine onV_c fun v12 => ?_
  refine onV_c fun v13 => ?_
  refine onV_c fun v14 => ?_
  refine onV_c fun v15 => ?_
  refine onVH_c fun v16 H17 => ?_
  rw [hSeq_n]
  rw [n27_12]
  kernel_rfl
noncomputable def f27_sh (call : Handle) (k : Nat) (p0 : Value) (H : GH) : M (Value × GH) :=
  onV (gLoad Tryd.prog 5 (.pointer (some ⟨H.n, 4, none⟩)) (GH.push H (.row (Value.cells p0).toList 48 false))) fun v1 =>
  onV (gLoad Tryd.prog 42 (.pointer (some ⟨H.n, 0, none⟩)) (GH.push H (.row (Value.cells p0).toList 48 false))) fun v2 =>
  onV ((oBin Tryd.prog .eql 42 v2 (.int .u8 3)).filter closed) fun v3 =>
  onBool (asB v3)
  (onV (gLoad Tryd.prog 3 (.pointer (some ⟨H.n, 5, none⟩)) (GH.push H (.row (Value.cells p0).toList 48 false))) fun v4 =>
  onV ((oBin Tryd.prog .add 3 v4 (.int .i64 16)).filter closed) fun v5 =>
  onV ((oConvert Tryd.prog 3 5 v5).filter closed) fun v6 =>
  (f27_r4 call k (.pointer (some ⟨H.n, 0, none⟩)) v6 (GH.push H (.row (Value.cells p0).toList 48 false))))
  ((f27_r4 call k (.pointer (some ⟨H.n, 0, none⟩)) v1 (GH.push H (.row (Value.cells p0).toList 48 false))))
theorem f27_run (call : Handle) (k : Nat) (p0 : Value) (H : GH) : g27 call k [] (FG 30 (fun _ => undef) [(0, p0)]) H (hFin Tryd.prog Tryd.f27) = f27_sh call k p0 H := by
  unfold f27_sh
  rw [n27_0]
  rw [n27_1]
  rw [s27_0]
  rw [hSeq_n]
  rw [n27_2]
  rw [n27_3]
  rw [s27_1]
  refine onV_c fun v1 => ?_
  rw [hSeq_n]
  rw [n27_4]
  rw [n27_5]
  rw [n27_6]
  rw [s27_2]
  refine onV_c fun v2 => ?_
  refine onV_c fun v3 => ?_
  rw [hSeq_n]
  rw [n27_7]
  refine onBool_cc (by kernel_rfl) ?_ ?_
  · rw [n27_8]
    rw [s27_3]
    refine onV_c fun v4 => ?_
    refine onV_c fun v5 => ?_
    refine onV_c fun v6 => ?_
    rw [hSeq_n]
    generalize e : (FG 30 (fun _ => undef) [(3, v6), (12, v6), (11, v5), (10, v4), (9, (.pointer (some ⟨H.n, 5, none⟩))), (8, v3), (7, v2), (6, (.pointer (some ⟨H.n, 0, none⟩))), (3, v1), (5, v1), (4, (.pointer (some ⟨H.n, 4, none⟩))), (2, (.slice none 0 0)), (1, (.pointer (some ⟨H.n, 0, none⟩))), (0, p0)]) = a
    rw [show a = (FF 30 (gf a)) from (FF_gf (by subst e; exact FG_len)).symm]
    exact (f27_r4_eq (d := gf a) call k).trans (by subst e; kernel_rfl)
  · rw [n27_9]
    rw [hSeq_n]
    generalize e : (FG 30 (fun _ => undef) [(8, v3), (7, v2), (6, (.pointer (some ⟨H.n, 0, none⟩))), (3, v1), (5, v1), (4, (.pointer (some ⟨H.n, 4, none⟩))), (2, (.slice none 0 0)), (1, (.pointer (some ⟨H.n, 0, none⟩))), (0, p0)]) = a
    rw [show a = (FF 30 (gf a)) from (FF_gf (by subst e; exact FG_len)).symm]
    exact (f27_r4_eq (d := gf a) call k).trans (by subst e; kernel_rfl)
theorem f27_eq (call : Handle) (k : Nat) (p0 : Value) (H : GH) : gFunc Tryd.prog call k Tryd.f27 [p0] H = f27_sh call k p0 H :=
  Eq.trans (by kernel_rfl) (f27_run call k p0 H)
end
noncomputable def g28 {β : Type} (call : Handle) (k : Nat) (p : List Nat) : GA → GH → Kont β → M β := gCode Tryd.prog call k (fAt Tryd.f28 p)
noncomputable def o28 {β : Type} (d : Nat) (call : Handle) (p : List Nat) (i : Nat) : GA → GH → (GA → GH → M β) → M β := gOps Tryd.prog d call (opsAt (fAt Tryd.f28 p)) i ((opsAt (fAt Tryd.f28 p)).drop i)
noncomputable def t28 {β : Type} (d : Nat) (call : Handle) (p : List Nat) (i n : Nat) : GA → GH → (GA → GH → M β) → M β := gOps Tryd.prog d call (opsAt (fAt Tryd.f28 p)) i (((opsAt (fAt Tryd.f28 p)).drop i).take n)
theorem o28_s {β : Type} {d : Nat} {call : Handle} {p : List Nat} {a : GA} {H : GH} {K : GA → GH → M β} (i n : Nat) : o28 d call p i a H K = t28 d call p i n a H fun a H => o28 d call p (i + n) a H K := gOps_split i n
section
variable {β : Type} {call : Handle} {k : Nat} {a : GA} {K : Kont β} {K' : GA → GH → M β}
variable {d : Nat → Value} {xg : Value}
variable {p0 : Value}
variable {v1 v2 v3 v4 : Value}
variable {H : GH}
theorem n28_0 : g28 call k [] a H K = g28 call k [0] a H (hSeq (g28 call k [1]) K) := at_seq (by kernel_rfl)
theorem n28_1 : g28 call k [0] a H K = o28 0 call [0] 0 a H (K .normal) := at_region (by kernel_rfl)
theorem n28_2 : g28 call k [1] a H K = g28 call k [1,0] a H (hSeq (g28 call k [1,1]) K) := at_seq (by kernel_rfl)
theorem n28_3 : g28 call k [1,0] a H K = o28 0 call [1,0] 0 a H (K .normal) := at_region (by kernel_rfl)
theorem n28_4 : g28 call k [1,1] a H K = g28 call k [1,1,0] a H (hSeq (g28 call k [1,1,1]) K) := at_seq (by kernel_rfl)
theorem n28_5 : g28 call k [1,1,0] a H K = g28 call k [1,1,0,0] a H (hSeq (g28 call k [1,1,0,1]) K) := at_seq (by kernel_rfl)
theorem n28_6 : g28 call k [1,1,0,0] a H K = o28 0 call [1,1,0,0] 0 a H (K .normal) := at_region (by kernel_rfl)
theorem n28_7 : g28 call k [1,1,0,1] a H K = onBool (asB (GA.eval a (.tmp 9))) (g28 call k [1,1,0,1,0] a H K) (g28 call k [1,1,0,1,1] a H K) := at_cond (by kernel_rfl)
theorem n28_8 : g28 call k [1,1,0,1,0] a H K = o28 0 call [1,1,0,1,0] 0 a H (K .normal) := at_region (by kernel_rfl)
theorem n28_9 : g28 call k [1,1,0,1,1] a H K = K .normal a H := at_skip (by kernel_rfl)
theorem n28_10 : g28 call k [1,1,1] a H K = g28 call k [1,1,1,0] a H (hSeq (g28 call k [1,1,1,1]) K) := at_seq (by kernel_rfl)
theorem n28_11 : g28 call k [1,1,1,0] a H K = o28 0 call [1,1,1,0] 0 a H (K .normal) := at_region (by kernel_rfl)
theorem n28_12 : g28 call k [1,1,1,1] a H K = K .ret a H := at_ret (by kernel_rfl)
theorem s28_0 : o28 0 call [0] 0 (FG 35 (fun _ => undef) [(0, p0)]) H K' =
  K' (FG 35 (fun _ => undef) [(2, (.slice none 0 0)), (1, (.pointer (some ⟨H.n, 0, none⟩))), (0, p0)]) (GH.push H (.row (Value.cells p0).toList 48 false)) := by kernel_rfl
theorem s28_1 : o28 0 call [1,0] 0 (FG 35 (fun _ => undef) [(2, (.slice none 0 0)), (1, (.pointer (some ⟨H.n, 0, none⟩))), (0, p0)]) (GH.push H (.row (Value.cells p0).toList 48 false)) K' =
  onV (gLoad Tryd.prog 5 (.pointer (some ⟨H.n, 4, none⟩)) (GH.push H (.row (Value.cells p0).toList 48 false))) fun v1 =>
  onV ((oConvert Tryd.prog 5 3 v1).filter closed) fun v2 =>
  K' (FG 35 (fun _ => undef) [(3, v2), (6, v2), (5, v1), (4, (.pointer (some ⟨H.n, 4, none⟩))), (2, (.slice none 0 0)), (1, (.pointer (some ⟨H.n, 0, none⟩))), (0, p0)]) (GH.push H (.row (Value.cells p0).toList 48 false)) := by kernel_rfl
theorem s28_2 : o28 0 call [1,1,0,0] 0 (FG 35 (fun _ => undef) [(3, v2), (6, v2), (5, v1), (4, (.pointer (some ⟨H.n, 4, none⟩))), (2, (.slice none 0 0)), (1, (.pointer (some ⟨H.n, 0, none⟩))), (0, p0)]) (GH.push H (.row (Value.cells p0).toList 48 false)) K' =
  onV (gLoad Tryd.prog 42 (.pointer (some ⟨H.n, 0, none⟩)) (GH.push H (.row (Value.cells p0).toList 48 false))) fun v3 =>
  onV ((oBin Tryd.prog .eql 42 v3 (.int .u8 3)).filter closed) fun v4 =>
  K' (FG 35 (fun _ => undef) [(9, v4), (8, v3), (7, (.pointer (some ⟨H.n, 0, none⟩))), (3, v2), (6, v2), (5, v1), (4, (.pointer (some ⟨H.n, 4, none⟩))), (2, (.slice none 0 0)), (1, (.pointer (some ⟨H.n, 0, none⟩))), (0, p0)]) (GH.push H (.row (Value.cells p0).toList 48 false)) := by kernel_rfl
theorem s28_3 : o28 0 call [1,1,0,1,0] 0 (FG 35 (fun _ => undef) [(9, v4), (8, v3), (7, (.pointer (some ⟨H.n, 0, none⟩))), (3, v2), (6, v2), (5, v1), (4, (.pointer (some ⟨H.n, 4, none⟩))), (2, (.slice none 0 0)), (1, (.pointer (some ⟨H.n, 0, none⟩))), (0, p0)]) (GH.push H (.row (Value.cells p0).toList 48 false)) K' =
  onV (gLoad Tryd.prog 3 (.pointer (some ⟨H.n, 5, none⟩)) (GH.push H (.row (Value.cells p0).toList 48 false))) fun v5 =>
  onV ((oBin Tryd.prog .add 3 v5 (.int .i64 16)).filter closed) fun v6 =>
  K' (FG 35 (fun _ => undef) [(3, v6), (12, v6), (11, v5), (10, (.pointer (some ⟨H.n, 5, none⟩))), (9, v4), (8, v3), (7, (.pointer (some ⟨H.n, 0, none⟩))), (3, v2), (6, v2), (5, v1), (4, (.pointer (some ⟨H.n, 4, none⟩))), (2, (.slice none 0 0)), (1, (.pointer (some ⟨H.n, 0, none⟩))), (0, p0)]) (GH.push H (.row (Value.cells p0).toList 48 false)) := by kernel_rfl
theorem s28_4 : o28 0 call [1,1,1,0] 0 (FF 35 d) H K' =
  onV (oFieldAddr Tryd.prog 48 (d 1) 0) fun v1 =>
  onV (gLoad Tryd.prog 42 v1 H) fun v2 =>
  onV ((oConvert Tryd.prog 42 3 v2).filter closed) fun v3 =>
  onV (oFieldAddr Tryd.prog 48 (d 1) 1) fun v4 =>
  onV (gLoad Tryd.prog 43 v4 H) fun v5 =>
  onV ((oConvert Tryd.prog 43 3 v5).filter closed) fun v6 =>
  onV ((oBin Tryd.prog .mul 3 (.int .i64 16) v6).filter closed) fun v7 =>
  onV ((oBin Tryd.prog .add 3 v3 v7).filter closed) fun v8 =>
  onV (oFieldAddr Tryd.prog 48 (d 1) 2) fun v9 =>
  onV (oFieldAddr Tryd.prog 46 v9 0) fun v10 =>
  onV (gLoad Tryd.prog 44 v10 H) fun v11 =>
  onV ((oConvert Tryd.prog 44 3 v11).filter closed) fun v12 =>
  onV ((oBin Tryd.prog .mul 3 (.int .i64 32) v12).filter closed) fun v13 =>
  onV ((oBin Tryd.prog .add 3 v8 v13).filter closed) fun v14 =>
  onV ((oConvert Tryd.prog 3 5 v14).filter closed) fun v15 =>
  onV (oFieldAddr Tryd.prog 48 (d 1) 2) fun v16 =>
  onV (oFieldAddr Tryd.prog 46 v16 1) fun v17 =>
  onV (gLoad Tryd.prog 3 v17 H) fun v18 =>
  onV ((oConvert Tryd.prog 3 5 v18).filter closed) fun v19 =>
  onV ((oConvert Tryd.prog 3 5 (d 3)).filter closed) fun v20 =>
  onVH (gBuildSlice Tryd.prog 24 3 [(0, v15), (1, v19), (2, v20)] H) fun v21 H22 =>
  K' (FG 35 d [(2, v21), (34, v21), (33, v20), (32, (d 3)), (31, v19), (30, v18), (29, v17), (28, v16), (27, v15), (26, v14), (25, v13), (24, v12), (23, v11), (22, v10), (21, v9), (20, v8), (19, v7), (18, v6), (17, v5), (16, v4), (15, v3), (14, v2), (13, v1)]) H22 := by kernel_rfl
noncomputable def f28_r4 (call : Handle) (k : Nat) (x1 x3 : Value) (H : GH) : M (Value × GH) :=
  onV (oFieldAddr Tryd.prog 48 x1 0) fun v1 =>
  onV (gLoad Tryd.prog 42 v1 H) fun v2 =>
  onV ((oConvert Tryd.prog 42 3 v2).filter closed) fun v3 =>
  onV (oFieldAddr Tryd.prog 48 x1 1) fun v4 =>
  onV (gLoad Tryd.prog 43 v4 H) fun v5 =>
  onV ((oConvert Tryd.prog 43 3 v5).filter closed) fun v6 =>
  onV ((oBin Tryd.prog .mul 3 (.int .i64 16) v6).filter closed) fun v7 =>
  onV ((oBin Tryd.prog .add 3 v3 v7).filter closed) fun v8 =>
  onV (oFieldAddr Tryd.prog 48 x1 2) fun v9 =>
  onV (oFieldAddr Tryd.prog 46 v9 0) fun v10 =>
  onV (gLoad Tryd.prog 44 v10 H) fun v11 =>
  onV ((oConvert Tryd.prog 44 3 v11).filter closed) fun v12 =>
  onV ((oBin Tryd.prog .mul 3 (.int .i64 32) v12).filter closed) fun v13 =>
  onV ((oBin Tryd.prog .add 3 v8 v13).filter closed) fun v14 =>
  onV ((oConvert Tryd.prog 3 5 v14).filter closed) fun v15 =>
  onV (oFieldAddr Tryd.prog 48 x1 2) fun v16 =>
  onV (oFieldAddr Tryd.prog 46 v16 1) fun v17 =>
  onV (gLoad Tryd.prog 3 v17 H) fun v18 =>
  onV ((oConvert Tryd.prog 3 5 v18).filter closed) fun v19 =>
  onV ((oConvert Tryd.prog 3 5 x3).filter closed) fun v20 =>
  onVH (gBuildSlice Tryd.prog 24 3 [(0, v15), (1, v19), (2, v20)] H) fun v21 H22 =>
  some [(v21, H22)]
theorem f28_r4_eq (call : Handle) (k : Nat) : g28 call k [1,1,1] (FF 35 d) H (hFin Tryd.prog Tryd.f28) = f28_r4 call k (d 1) (d 3) H := by
  unfold f28_r4
  rw [n28_10]
  rw [n28_11]
  rw [s28_4]
  refine onV_c fun v1 => ?_
  refine onV_c fun v2 => ?_
  refine onV_c fun v3 => ?_
  refine onV_c fun v4 => ?_
  refine onV_c fun v5 => ?_
  refine onV_c fun v6 => ?_
  refine onV_c fun v7 => ?_
  refine onV_c fun v8 => ?_
  refine onV_c fun v9 => ?_
  refine onV_c fun v10 => ?_
  refine onV_c fun v11 => ?_
  refine onV_c fun v12 => ?_
  refine onV_c fun v13 => ?_
  refine onV_c fun v14 => ?_
  refine onV_c fun v15 => ?_
  refine onV_c fun v16 => ?_
  refine onV_c fun v17 => ?_
  refine onV_c fun v18 => ?_
  refine onV_c fun v19 => ?_
  refine onV_c fun v20 => ?_
  refine onVH_c fun v21 H22 => ?_
  rw [hSeq_n]
  rw [n28_12]
  kernel_rfl
noncomputable def f28_sh (call : Handle) (k : Nat) (p0 : Value) (H : GH) : M (Value × GH) :=
  onV (gLoad Tryd.prog 5 (.pointer (some ⟨H.n, 4, none⟩)) (GH.push H (.row (Value.cells p0).toList 48 false))) fun v1 =>
  onV ((oConvert Tryd.prog 5 3 v1).filter closed) fun v2 =>
  onV (gLoad Tryd.prog 42 (.pointer (some ⟨H.n, 0, none⟩)) (GH.push H (.row (Value.cells p0).toList 48 false))) fun v3 =>
  onV ((oBin Tryd.prog .eql 42 v3 (.int .u8 3)).filter closed) fun v4 =>
  onBool (asB v4)
  (onV (gLoad Tryd.prog 3 (.pointer (some ⟨H.n, 5, none⟩)) (GH.push H (.row (Value.cells p0).toList 48 false))) fun v5 =>
  onV ((oBin Tryd.prog .add 3 v5 (.int .i64 16)).filter closed) fun v6 =>
  (f28_r4 call k (.pointer (some ⟨H.n, 0, none⟩)) v6 (GH.push H (.row (Value.cells p0).toList 48 false))))
  ((f28_r4 call k (.pointer (some ⟨H.n, 0, none⟩)) v2 (GH.push H (.row (Value.cells p0).toList 48 false))))
theorem f28_run (call : Handle) (k : Nat) (p0 : Value) (H : GH) : g28 call k [] (FG 35 (fun _ => undef) [(0, p0)]) H (hFin Tryd.prog Tryd.f28) = f28_sh call k p0 H := by
  unfold f28_sh
  rw [n28_0]
  rw [n28_1]
  rw [s28_0]
  rw [hSeq_n]
  rw [n28_2]
  rw [n28_3]
  rw [s28_1]
  refine onV_c fun v1 => ?_
  refine onV_c fun v2 => ?_
  rw [hSeq_n]
  rw [n28_4]
  rw [n28_5]
  rw [n28_6]
  rw [s28_2]
  refine onV_c fun v3 => ?_
  refine onV_c fun v4 => ?_
  rw [hSeq_n]
  rw [n28_7]
  refine onBool_cc (by kernel_rfl) ?_ ?_
  · rw [n28_8]
    rw [s28_3]
    refine onV_c fun v5 => ?_
    refine onV_c fun v6 => ?_
    rw [hSeq_n]
    generalize e : (FG 35 (fun _ => undef) [(3, v6), (12, v6), (11, v5), (10, (.pointer (some ⟨H.n, 5, none⟩))), (9, v4), (8, v3), (7, (.pointer (some ⟨H.n, 0, none⟩))), (3, v2), (6, v2), (5, v1), (4, (.pointer (some ⟨H.n, 4, none⟩))), (2, (.slice none 0 0)), (1, (.pointer (some ⟨H.n, 0, none⟩))), (0, p0)]) = a
    rw [show a = (FF 35 (gf a)) from (FF_gf (by subst e; exact FG_len)).symm]
    exact (f28_r4_eq (d := gf a) call k).trans (by subst e; kernel_rfl)
  · rw [n28_9]
    rw [hSeq_n]
    generalize e : (FG 35 (fun _ => undef) [(9, v4), (8, v3), (7, (.pointer (some ⟨H.n, 0, none⟩))), (3, v2), (6, v2), (5, v1), (4, (.pointer (some ⟨H.n, 4, none⟩))), (2, (.slice none 0 0)), (1, (.pointer (some ⟨H.n, 0, none⟩))), (0, p0)]) = a
    rw [show a = (FF 35 (gf a)) from (FF_gf (by subst e; exact FG_len)).symm]
    exact (f28_r4_eq (d := gf a) call k).trans (by subst e; kernel_rfl)
theorem f28_eq (call : Handle) (k : Nat) (p0 : Value) (H : GH) : gFunc Tryd.prog call k Tryd.f28 [p0] H = f28_sh call k p0 H :=
  Eq.trans (by kernel_rfl) (f28_run call k p0 H)
end
noncomputable def g29 {β : Type} (call : Handle) (k : Nat) (p : List Nat) : GA → GH → Kont β → M β := gCode Tryd.prog call k (fAt Tryd.f29 p)
noncomputable def o29 {β : Type} (d : Nat) (call : Handle) (p : List Nat) (i : Nat) : GA → GH → (GA → GH → M β) → M β := gOps Tryd.prog d call (opsAt (fAt Tryd.f29 p)) i ((opsAt (fAt Tryd.f29 p)).drop i)
noncomputable def t29 {β : Type} (d : Nat) (call : Handle) (p : List Nat) (i n : Nat) : GA → GH → (GA → GH → M β) → M β := gOps Tryd.prog d call (opsAt (fAt Tryd.f29 p)) i (((opsAt (fAt Tryd.f29 p)).drop i).take n)
theorem o29_s {β : Type} {d : Nat} {call : Handle} {p : List Nat} {a : GA} {H : GH} {K : GA → GH → M β} (i n : Nat) : o29 d call p i a H K = t29 d call p i n a H fun a H => o29 d call p (i + n) a H K := gOps_split i n
section
variable {β : Type} {call : Handle} {k : Nat} {a : GA} {K : Kont β} {K' : GA → GH → M β}
variable {d : Nat → Value} {xg : Value}
variable {p0 p1 : Value}
variable {v1 v2 v3 v4 v5 v6 : Value}
variable {H : GH}
theorem n29_0 : g29 call k [] a H K = g29 call k [0] a H (hSeq (g29 call k [1]) K) := at_seq (by kernel_rfl)
theorem n29_1 : g29 call k [0] a H K = o29 0 call [0] 0 a H (K .normal) := at_region (by kernel_rfl)
theorem n29_2 : g29 call k [1] a H K = g29 call k [1,0] a H (hSeq (g29 call k [1,1]) K) := at_seq (by kernel_rfl)
theorem n29_3 : g29 call k [1,0] a H K = g29 call k [1,0,0] a H (hSeq (g29 call k [1,0,1]) K) := at_seq (by kernel_rfl)
theorem n29_4 : g29 call k [1,0,0] a H K = o29 0 call [1,0,0] 0 a H (K .normal) := at_region (by kernel_rfl)
theorem n29_5 : g29 call k [1,0,1] a H K = onBool (asB (GA.eval a (.tmp 10))) (g29 call k [1,0,1,0] a H K) (g29 call k [1,0,1,1] a H K) := at_cond (by kernel_rfl)
theorem n29_6 : g29 call k [1,0,1,0] a H K = g29 call k [1,0,1,0,0] a H (hSeq (g29 call k [1,0,1,0,1]) K) := at_seq (by kernel_rfl)
theorem n29_7 : g29 call k [1,0,1,0,0] a H K = o29 0 call [1,0,1,0,0] 0 a H (K .normal) := at_region (by kernel_rfl)
theorem n29_8 : g29 call k [1,0,1,0,1] a H K = K .ret a H := at_ret (by kernel_rfl)
theorem n29_9 : g29 call k [1,0,1,1] a H K = K .normal a H := at_skip (by kernel_rfl)
theorem n29_10 : g29 call k [1,1] a H K = g29 call k [1,1,0] a H (hSeq (g29 call k [1,1,1]) K) := at_seq (by kernel_rfl)
theorem n29_11 : g29 call k [1,1,0] a H K = g29 call k [1,1,0,0] a H (hSeq (g29 call k [1,1,0,1]) K) := at_seq (by kernel_rfl)
theorem n29_12 : g29 call k [1,1,0,0] a H K = o29 0 call [1,1,0,0] 0 a H (K .normal) := at_region (by kernel_rfl)
theorem n29_13 : g29 call k [1,1,0,1] a H K = g29 call k [1,1,0,1,0] a H (hBlock 0 K) := at_block (by kernel_rfl)
theorem n29_14 : g29 call k [1,1,0,1,0] a H K = gLoop (g29 call k [1,1,0,1,0,0]) K k a H := at_loop (by kernel_rfl)
theorem n29_15 : g29 call k [1,1,0,1,0,0] a H K = g29 call k [1,1,0,1,0,0,0] a H (hSeq (g29 call k [1,1,0,1,0,0,1]) K) := at_seq (by kernel_rfl)
theorem n29_16 : g29 call k [1,1,0,1,0,0,0] a H K = o29 0 call [1,1,0,1,0,0,0] 0 a H (K .normal) := at_region (by kernel_rfl)
theorem n29_17 : g29 call k [1,1,0,1,0,0,1] a H K = g29 call k [1,1,0,1,0,0,1,0] a H (hSeq (g29 call k [1,1,0,1,0,0,1,1]) K) := at_seq (by kernel_rfl)
theorem n29_18 : g29 call k [1,1,0,1,0,0,1,0] a H K = onBool (asB (GA.eval a (.tmp 14))) (g29 call k [1,1,0,1,0,0,1,0,0] a H K) (g29 call k [1,1,0,1,0,0,1,0,1] a H K) := at_cond (by kernel_rfl)
theorem n29_19 : g29 call k [1,1,0,1,0,0,1,0,0] a H K = K .normal a H := at_skip (by kernel_rfl)
theorem n29_20 : g29 call k [1,1,0,1,0,0,1,1] a H K = g29 call k [1,1,0,1,0,0,1,1,0] a H (hSeq (g29 call k [1,1,0,1,0,0,1,1,1]) K) := at_seq (by kernel_rfl)
theorem n29_21 : g29 call k [1,1,0,1,0,0,1,1,0] a H K = g29 call k [1,1,0,1,0,0,1,1,0,0] a H (hBlock 1 K) := at_block (by kernel_rfl)
theorem n29_22 : g29 call k [1,1,0,1,0,0,1,1,0,0] a H K = g29 call k [1,1,0,1,0,0,1,1,0,0,0] a H (hSeq (g29 call k [1,1,0,1,0,0,1,1,0,0,1]) K) := at_seq (by kernel_rfl)
theorem n29_23 : g29 call k [1,1,0,1,0,0,1,1,0,0,0] a H K = o29 0 call [1,1,0,1,0,0,1,1,0,0,0] 0 a H (K .normal) := at_region (by kernel_rfl)
theorem n29_24 : g29 call k [1,1,0,1,0,0,1,1,0,0,1] a H K = g29 call k [1,1,0,1,0,0,1,1,0,0,1,0] a H (hSeq (g29 call k [1,1,0,1,0,0,1,1,0,0,1,1]) K) := at_seq (by kernel_rfl)
theorem n29_25 : g29 call k [1,1,0,1,0,0,1,1,0,0,1,0] a H K = o29 1 call [1,1,0,1,0,0,1,1,0,0,1,0] 0 a H (K .normal) := at_region (by kernel_rfl)
theorem n29_26 : g29 call k [1,1,0,1,0,0,1,1,0,0,1,1] a H K = onBool (asB (GA.eval a (.tmp 24))) (g29 call k [1,1,0,1,0,0,1,1,0,0,1,1,0] a H K) (g29 call k [1,1,0,1,0,0,1,1,0,0,1,1,1] a H K) := at_cond (by kernel_rfl)
theorem n29_27 : g29 call k [1,1,0,1,0,0,1,1,0,0,1,1,0] a H K = g29 call k [1,1,0,1,0,0,1,1,0,0,1,1,0,0] a H (hSeq (g29 call k [1,1,0,1,0,0,1,1,0,0,1,1,0,1]) K) := at_seq (by kernel_rfl)
theorem n29_28 : g29 call k [1,1,0,1,0,0,1,1,0,0,1,1,0,0] a H K = o29 0 call [1,1,0,1,0,0,1,1,0,0,1,1,0,0] 0 a H (K .normal) := at_region (by kernel_rfl)
theorem n29_29 : g29 call k [1,1,0,1,0,0,1,1,0,0,1,1,0,1] a H K = K .ret a H := at_ret (by kernel_rfl)
theorem n29_30 : g29 call k [1,1,0,1,0,0,1,1,0,0,1,1,1] a H K = K .normal a H := at_skip (by kernel_rfl)
theorem n29_31 : g29 call k [1,1,0,1,0,0,1,1,1] a H K = o29 0 call [1,1,0,1,0,0,1,1,1] 0 a H (K .normal) := at_region (by kernel_rfl)
theorem n29_32 : g29 call k [1,1,0,1,0,0,1,0,1] a H K = K (.exit 0) a H := at_exit (by kernel_rfl)
theorem n29_33 : g29 call k [1,1,1] a H K = g29 call k [1,1,1,0] a H (hSeq (g29 call k [1,1,1,1]) K) := at_seq (by kernel_rfl)
theorem n29_34 : g29 call k [1,1,1,0] a H K = o29 0 call [1,1,1,0] 0 a H (K .normal) := at_region (by kernel_rfl)
theorem n29_35 : g29 call k [1,1,1,1] a H K = K .ret a H := at_ret (by kernel_rfl)
theorem s29_0 : o29 0 call [0] 0 (FG 26 (fun _ => undef) [(1, p1), (0, p0)]) H K' =
  K' (FG 26 (fun _ => undef) [(4, (.bool false)), (1, p1), (0, p0)]) H := by kernel_rfl
theorem s29_1 : o29 0 call [1,0,0] 0 (FG 26 (fun _ => undef) [(4, (.bool false)), (1, p1), (0, p0)]) H K' =
  onV (oLen Tryd.prog 24 p0) fun v1 =>
  onV (oLen Tryd.prog 24 p1) fun v2 =>
  onV ((oBin Tryd.prog .neq 3 v1 v2).filter closed) fun v3 =>
  K' (FG 26 (fun _ => undef) [(10, v3), (9, v2), (8, p1), (7, v1), (6, p0), (4, (.bool false)), (1, p1), (0, p0)]) H := by kernel_rfl
theorem s29_2 : o29 0 call [1,0,1,0,0] 0 (FG 26 (fun _ => undef) [(10, v3), (9, v2), (8, p1), (7, v1), (6, p0), (4, (.bool false)), (1, p1), (0, p0)]) H K' =
  K' (FG 26 (fun _ => undef) [(4, (.bool false)), (10, v3), (9, v2), (8, p1), (7, v1), (6, p0), (4, (.bool false)), (1, p1), (0, p0)]) H := by kernel_rfl
theorem s29_3 : o29 0 call [1,1,0,0] 0 (FG 26 (fun _ => undef) [(10, v3), (9, v2), (8, p1), (7, v1), (6, p0), (4, (.bool false)), (1, p1), (0, p0)]) H K' =
  onV (oLen Tryd.prog 24 p0) fun v4 =>
  K' (FG 26 (fun _ => undef) [(13, (.int .i64 0)), (12, v4), (11, p0), (10, v3), (9, v2), (8, p1), (7, v1), (6, p0), (4, (.bool false)), (1, p1), (0, p0)]) H := by kernel_rfl
theorem s29_4 : o29 0 call [1,1,0,1,0,0,0] 0 (FF 26 d) H K' =
  onV ((oBin Tryd.prog .lss 3 (d 13) (d 12)).filter closed) fun v1 =>
  K' (FG 26 d [(14, v1)]) H := by kernel_rfl
theorem s29_5 : o29 0 call [1,1,0,1,0,0,1,1,0,0,0] 0 (FG 26 d [(14, v1)]) H K' =
  K' (FG 26 d [(5, (d 13)), (15, (d 13)), (14, v1)]) H := by kernel_rfl
theorem s29_6 : o29 1 call [1,1,0,1,0,0,1,1,0,0,1,0] 0 (FG 26 d [(5, (d 13)), (15, (d 13)), (14, v1)]) H K' =
  onV (oIndexAddr Tryd.prog 24 (d 0) (d 13)) fun v2 =>
  onV (gLoad Tryd.prog 5 v2 H) fun v3 =>
  onV (oIndexAddr Tryd.prog 24 (d 1) (d 13)) fun v4 =>
  onV (gLoad Tryd.prog 5 v4 H) fun v5 =>
  onV ((oBin Tryd.prog .neq 5 v3 v5).filter closed) fun v6 =>
  K' (FG 26 d [(24, v6), (23, v5), (22, v4), (21, (d 13)), (20, (d 1)), (19, v3), (18, v2), (17, (d 13)), (16, (d 0)), (5, (d 13)), (15, (d 13)), (14, v1)]) H := by kernel_rfl
theorem s29_7 : o29 0 call [1,1,0,1,0,0,1,1,0,0,1,1,0,0] 0 (FG 26 d [(24, v6), (23, v5), (22, v4), (21, (d 13)), (20, (d 1)), (19, v3), (18, v2), (17, (d 13)), (16, (d 0)), (5, (d 13)), (15, (d 13)), (14, v1)]) H K' =
  K' (FG 26 d [(4, (.bool false)), (24, v6), (23, v5), (22, v4), (21, (d 13)), (20, (d 1)), (19, v3), (18, v2), (17, (d 13)), (16, (d 0)), (5, (d 13)), (15, (d 13)), (14, v1)]) H := by kernel_rfl
theorem s29_8 : o29 0 call [1,1,0,1,0,0,1,1,1] 0 (FG 26 d [(24, v6), (23, v5), (22, v4), (21, (d 13)), (20, (d 1)), (19, v3), (18, v2), (17, (d 13)), (16, (d 0)), (5, (d 13)), (15, (d 13)), (14, v1)]) H K' =
  onV ((oBin Tryd.prog .add 3 (d 13) (.int .i64 1)).filter closed) fun v7 =>
  K' (FG 26 d [(13, v7), (25, v7), (24, v6), (23, v5), (22, v4), (21, (d 13)), (20, (d 1)), (19, v3), (18, v2), (17, (d 13)), (16, (d 0)), (5, (d 13)), (15, (d 13)), (14, v1)]) H := by kernel_rfl
theorem s29_9 : o29 0 call [1,1,1,0] 0 (FG 26 d [(14, v1)]) H K' =
  K' (FG 26 d [(4, (.bool true)), (14, v1)]) H := by kernel_rfl
def f29_l4_P (ag : AG) (sg : Sg4) : Prop := ∀ (d : Nat → Value) (H : GH), ag (FF 26 d) H = sg (d 0) (d 1) (d 12) (d 13) H
theorem f29_l4_at {ag : AG} {sg : Sg4} (h : f29_l4_P ag sg) : ag (FF 26 d) H = sg (d 0) (d 1) (d 12) (d 13) H := h d H
noncomputable def f29_l4b (call : Handle) (k : Nat) (sg_l4 : Sg4) (x0 x1 x12 x13 : Value) (H : GH) : M (Value × GH) :=
  onV ((oBin Tryd.prog .lss 3 x13 x12).filter closed) fun v1 =>
  onBool (asB v1)
  (onV (oIndexAddr Tryd.prog 24 x0 x13) fun v2 =>
  onV (gLoad Tryd.prog 5 v2 H) fun v3 =>
  onV (oIndexAddr Tryd.prog 24 x1 x13) fun v4 =>
  onV (gLoad Tryd.prog 5 v4 H) fun v5 =>
  onV ((oBin Tryd.prog .neq 5 v3 v5).filter closed) fun v6 =>
  onBool (asB v6)
  (some [((.bool false), H)])
  (onV ((oBin Tryd.prog .add 3 x13 (.int .i64 1)).filter closed) fun v7 =>
  (sg_l4 x0 x1 x12 v7 H)))
  (some [((.bool true), H)])
theorem f29_l4b_eq (call : Handle) (k : Nat) (ag_l4 : AG) (sg_l4 : Sg4) (h_l4 : f29_l4_P ag_l4 sg_l4) : g29 call k [1,1,0,1,0,0] (FF 26 d) H (hLoop ag_l4 (hBlock 0 (hSeq (g29 call k [1,1,1]) (hFin Tryd.prog Tryd.f29)))) = f29_l4b call k sg_l4 (d 0) (d 1) (d 12) (d 13) H := by
  unfold f29_l4b
  rw [n29_15]
  rw [n29_16]
  rw [s29_4]
  refine onV_c fun v1 => ?_
  rw [hSeq_n]
  rw [n29_17]
  rw [n29_18]
  refine onBool_cc (by kernel_rfl) ?_ ?_
  · rw [n29_19]
    rw [hSeq_n]
    rw [n29_20]
    rw [n29_21]
    rw [n29_22]
    rw [n29_23]
    rw [s29_5]
    rw [hSeq_n]
    rw [n29_24]
    rw [n29_25]
    rw [s29_6]
    refine onV_c fun v2 => ?_
    refine onV_c fun v3 => ?_
    refine onV_c fun v4 => ?_
    refine onV_c fun v5 => ?_
    refine onV_c fun v6 => ?_
    rw [hSeq_n]
    rw [n29_26]
    refine onBool_cc (by kernel_rfl) ?_ ?_
    · rw [n29_27]
      rw [n29_28]
      rw [s29_7]
      rw [hSeq_n]
      rw [n29_29]
      rw [hBlock_r, hSeq_r, hLoop_r, hBlock_r, hSeq_r]
      kernel_rfl
    · rw [n29_30]
      rw [hBlock_n]
      rw [hSeq_n]
      rw [n29_31]
      rw [s29_8]
      refine onV_c fun v7 => ?_
      rw [hLoop_n]
      generalize e : (FG 26 d [(13, v7), (25, v7), (24, v6), (23, v5), (22, v4), (21, (d 13)), (20, (d 1)), (19, v3), (18, v2), (17, (d 13)), (16, (d 0)), (5, (d 13)), (15, (d 13)), (14, v1)]) = a
      rw [show a = (FF 26 (gf a)) from (FF_gf (by subst e; exact FG_len)).symm]
      exact (f29_l4_at (d := gf a) h_l4).trans (by subst e; kernel_rfl)
  · rw [n29_32]
    rw [hSeq_e, hLoop_e, hBlock_hit]
    rw [hSeq_n]
    rw [n29_33]
    rw [n29_34]
    rw [s29_9]
    rw [hSeq_n]
    rw [n29_35]
    kernel_rfl
noncomputable def f29_l4 (call : Handle) (k : Nat) : Nat → Value → Value → Value → Value → GH → M (Value × GH)
  | 0, _, _, _, _, _ => none
  | r + 1, x0, x1, x12, x13, H => f29_l4b call k (f29_l4 call k r) x0 x1 x12 x13 H
theorem f29_l4_eq (call : Handle) (k : Nat) : ∀ (r : Nat), f29_l4_P (gLoop (g29 call k [1,1,0,1,0,0]) (hBlock 0 (hSeq (g29 call k [1,1,1]) (hFin Tryd.prog Tryd.f29))) r) (f29_l4 call k r) := by
  intro r
  induction r with
  | zero => unfold f29_l4_P; intros; rfl
  | succ r ih => unfold f29_l4_P; intros; exact f29_l4b_eq call k _ _ ih
noncomputable def f29_sh (call : Handle) (k : Nat) (p0 p1 : Value) (H : GH) : M (Value × GH) :=
  onV (oLen Tryd.prog 24 p0) fun v1 =>
  onV (oLen Tryd.prog 24 p1) fun v2 =>
  onV ((oBin Tryd.prog .neq 3 v1 v2).filter closed) fun v3 =>
  onBool (asB v3)
  (some [((.bool false), H)])
  (onV (oLen Tryd.prog 24 p0) fun v4 =>
  (f29_l4 call k k p0 p1 v4 (.int .i64 0) H))
theorem f29_run (call : Handle) (k : Nat) (p0 p1 : Value) (H : GH) : g29 call k [] (FG 26 (fun _ => undef) [(1, p1), (0, p0)]) H (hFin Tryd.prog Tryd.f29) = f29_sh call k p0 p1 H := by
  unfold f29_sh
  rw [n29_0]
  rw [n29_1]
  rw [s29_0]
  rw [hSeq_n]
  rw [n29_2]
  rw [n29_3]
  rw [n29_4]
  rw [s29_1]
  refine onV_c fun v1 => ?_
  refine onV_c fun v2 => ?_
  refine onV_c fun v3 => ?_
  rw [hSeq_n]
  rw [n29_5]
  refine onBool_cc (by kernel_rfl) ?_ ?_
  · rw [n29_6]
    rw [n29_7]
    rw [s29_2]
    rw [hSeq_n]
    rw [n29_8]
    rw [hSeq_r]
    kernel_rfl
  · rw [n29_9]
    rw [hSeq_n]
    rw [n29_10]
    rw [n29_11]
    rw [n29_12]
    rw [s29_3]
    refine onV_c fun v4 => ?_
    rw [hSeq_n]
    rw [n29_13]
    rw [n29_14]
    generalize e : (FG 26 (fun _ => undef) [(13, (.int .i64 0)), (12, v4), (11, p0), (10, v3), (9, v2), (8, p1), (7, v1), (6, p0), (4, (.bool false)), (1, p1), (0, p0)]) = a
    rw [show a = (FF 26 (gf a)) from (FF_gf (by subst e; exact FG_len)).symm]
    exact (f29_l4_at (d := gf a) (f29_l4_eq call k k)).trans (by subst e; kernel_rfl)
theorem f29_eq (call : Handle) (k : Nat) (p0 p1 : Value) (H : GH) : gFunc Tryd.prog call k Tryd.f29 [p0, p1] H = f29_sh call k p0 p1 H :=
  Eq.trans (by kernel_rfl) (f29_run call k p0 p1 H)
end
noncomputable def g30 {β : Type} (call : Handle) (k : Nat) (p : List Nat) : GA → GH → Kont β → M β := gCode Tryd.prog call k (fAt Tryd.f30 p)
noncomputable def o30 {β : Type} (d : Nat) (call : Handle) (p : List Nat) (i : Nat) : GA → GH → (GA → GH → M β) → M β := gOps Tryd.prog d call (opsAt (fAt Tryd.f30 p)) i ((opsAt (fAt Tryd.f30 p)).drop i)
noncomputable def t30 {β : Type} (d : Nat) (call : Handle) (p : List Nat) (i n : Nat) : GA → GH → (GA → GH → M β) → M β := gOps Tryd.prog d call (opsAt (fAt Tryd.f30 p)) i (((opsAt (fAt Tryd.f30 p)).drop i).take n)
theorem o30_s {β : Type} {d : Nat} {call : Handle} {p : List Nat} {a : GA} {H : GH} {K : GA → GH → M β} (i n : Nat) : o30 d call p i a H K = t30 d call p i n a H fun a H => o30 d call p (i + n) a H K := gOps_split i n
section
variable {β : Type} {call : Handle} {k : Nat} {a : GA} {K : Kont β} {K' : GA → GH → M β}
variable {d : Nat → Value} {xg : Value}
variable {p0 p1 : Value}
variable {v1 v2 v3 v4 v5 v6 v7 : Value}
variable {H H8 : GH}
theorem n30_0 : g30 call k [] a H K = g30 call k [0] a H (hSeq (g30 call k [1]) K) := at_seq (by kernel_rfl)
theorem n30_1 : g30 call k [0] a H K = o30 0 call [0] 0 a H (K .normal) := at_region (by kernel_rfl)
theorem n30_2 : g30 call k [1] a H K = g30 call k [1,0] a H (hSeq (g30 call k [1,1]) K) := at_seq (by kernel_rfl)
theorem n30_3 : g30 call k [1,0] a H K = g30 call k [1,0,0] a H (hSeq (g30 call k [1,0,1]) K) := at_seq (by kernel_rfl)
theorem n30_4 : g30 call k [1,0,0] a H K = o30 0 call [1,0,0] 0 a H (K .normal) := at_region (by kernel_rfl)
theorem n30_5 : g30 call k [1,0,1] a H K = onBool (asB (GA.eval a (.tmp 8))) (g30 call k [1,0,1,0] a H K) (g30 call k [1,0,1,1] a H K) := at_cond (by kernel_rfl)
theorem n30_6 : g30 call k [1,0,1,0] a H K = g30 call k [1,0,1,0,0] a H (hSeq (g30 call k [1,0,1,0,1]) K) := at_seq (by kernel_rfl)
theorem n30_7 : g30 call k [1,0,1,0,0] a H K = o30 0 call [1,0,1,0,0] 0 a H (K .normal) := at_region (by kernel_rfl)
theorem n30_8 : g30 call k [1,0,1,0,1] a H K = K .ret a H := at_ret (by kernel_rfl)
theorem n30_9 : g30 call k [1,0,1,1] a H K = K .normal a H := at_skip (by kernel_rfl)
theorem n30_10 : g30 call k [1,1] a H K = g30 call k [1,1,0] a H (hSeq (g30 call k [1,1,1]) K) := at_seq (by kernel_rfl)
theorem n30_11 : g30 call k [1,1,0] a H K = o30 1 call [1,1,0] 0 a H (K .normal) := at_region (by kernel_rfl)
theorem n30_12 : g30 call k [1,1,1] a H K = g30 call k [1,1,1,0] a H (hSeq (g30 call k [1,1,1,1]) K) := at_seq (by kernel_rfl)
theorem n30_13 : g30 call k [1,1,1,0] a H K = o30 0 call [1,1,1,0] 0 a H (K .normal) := at_region (by kernel_rfl)
theorem n30_14 : g30 call k [1,1,1,1] a H K = K .ret a H := at_ret (by kernel_rfl)
theorem s30_0 : o30 0 call [0] 0 (FG 16 (fun _ => undef) [(1, p1), (0, p0)]) H K' =
  K' (FG 16 (fun _ => undef) [(4, (.bool false)), (3, (.slice none 0 0)), (1, p1), (0, p0)]) H := by kernel_rfl
theorem s30_1 : o30 0 call [1,0,0] 0 (FG 16 (fun _ => undef) [(4, (.bool false)), (3, (.slice none 0 0)), (1, p1), (0, p0)]) H K' =
  onV (gLoad Tryd.prog 24 p1 H) fun v1 =>
  onV (oLen Tryd.prog 24 v1) fun v2 =>
  onV ((oBin Tryd.prog .gtr 3 p0 v2).filter closed) fun v3 =>
  K' (FG 16 (fun _ => undef) [(8, v3), (7, v2), (6, v1), (5, p0), (4, (.bool false)), (3, (.slice none 0 0)), (1, p1), (0, p0)]) H := by kernel_rfl
theorem s30_2 : o30 0 call [1,0,1,0,0] 0 (FG 16 (fun _ => undef) [(8, v3), (7, v2), (6, v1), (5, p0), (4, (.bool false)), (3, (.slice none 0 0)), (1, p1), (0, p0)]) H K' =
  K' (FG 16 (fun _ => undef) [(4, (.bool false)), (3, (.slice none 0 0)), (8, v3), (7, v2), (6, v1), (5, p0), (4, (.bool false)), (3, (.slice none 0 0)), (1, p1), (0, p0)]) H := by kernel_rfl
theorem s30_3 : o30 1 call [1,1,0] 0 (FG 16 (fun _ => undef) [(8, v3), (7, v2), (6, v1), (5, p0), (4, (.bool false)), (3, (.slice none 0 0)), (1, p1), (0, p0)]) H K' =
  onV (gLoad Tryd.prog 24 p1 H) fun v4 =>
  onV (oSlice Tryd.prog 24 v4 none (some p0) none) fun v5 =>
  onV (gLoad Tryd.prog 24 p1 H) fun v6 =>
  onV (oSlice Tryd.prog 24 v6 (some p0) none none) fun v7 =>
  onH (gStore Tryd.prog 24 p1 v7 H) fun H8 =>
  K' (FG 16 (fun _ => undef) [(3, v5), (14, v7), (13, p0), (12, v6), (11, v5), (10, p0), (9, v4), (8, v3), (7, v2), (6, v1), (5, p0), (4, (.bool false)), (3, (.slice none 0 0)), (1, p1), (0, p0)]) H8 := by kernel_rfl
theorem s30_4 : o30 0 call [1,1,1,0] 0 (FG 16 (fun _ => undef) [(3, v5), (14, v7), (13, p0), (12, v6), (11, v5), (10, p0), (9, v4), (8, v3), (7, v2), (6, v1), (5, p0), (4, (.bool false)), (3, (.slice none 0 0)), (1, p1), (0, p0)]) H8 K' =
  K' (FG 16 (fun _ => undef) [(4, (.bool true)), (3, v5), (15, v5), (3, v5), (14, v7), (13, p0), (12, v6), (11, v5), (10, p0), (9, v4), (8, v3), (7, v2), (6, v1), (5, p0), (4, (.bool false)), (3, (.slice none 0 0)), (1, p1), (0, p0)]) H8 := by kernel_rfl
noncomputable def f30_sh (call : Handle) (k : Nat) (p0 p1 : Value) (H : GH) : M (Value × GH) :=
  onV (gLoad Tryd.prog 24 p1 H) fun v1 =>
  onV (oLen Tryd.prog 24 v1) fun v2 =>
  onV ((oBin Tryd.prog .gtr 3 p0 v2).filter closed) fun v3 =>
  onBool (asB v3)
  (some [((.tuple #[(.slice none 0 0), (.bool false)]), H)])
  (onV (gLoad Tryd.prog 24 p1 H) fun v4 =>
  onV (oSlice Tryd.prog 24 v4 none (some p0) none) fun v5 =>
  onV (gLoad Tryd.prog 24 p1 H) fun v6 =>
  onV (oSlice Tryd.prog 24 v6 (some p0) none none) fun v7 =>
  onH (gStore Tryd.prog 24 p1 v7 H) fun H8 =>
  some [((.tuple #[v5, (.bool true)]), H8)])
theorem f30_run (call : Handle) (k : Nat) (p0 p1 : Value) (H : GH) : g30 call k [] (FG 16 (fun _ => undef) [(1, p1), (0, p0)]) H (hFin Tryd.prog Tryd.f30) = f30_sh call k p0 p1 H := by
  unfold f30_sh
  rw [n30_0]
  rw [n30_1]
  rw [s30_0]
  rw [hSeq_n]
  rw [n30_2]
  rw [n30_3]
  rw [n30_4]
  rw [s30_1]
  refine onV_c fun v1 => ?_
  refine onV_c fun v2 => ?_
  refine onV_c fun v3 => ?_
  rw [hSeq_n]
  rw [n30_5]
  refine onBool_cc (by kernel_rfl) ?_ ?_
  · rw [n30_6]
    rw [n30_7]
    rw [s30_2]
    rw [hSeq_n]
    rw [n30_8]
    rw [hSeq_r]
    kernel_rfl
  · rw [n30_9]
    rw [hSeq_n]
    rw [n30_10]
    rw [n30_11]
    rw [s30_3]
    refine onV_c fun v4 => ?_
    refine onV_c fun v5 => ?_
    refine onV_c fun v6 => ?_
    refine onV_c fun v7 => ?_
    refine onH_c fun H8 => ?_
    rw [hSeq_n]
    rw [n30_12]
    rw [n30_13]
    rw [s30_4]
    rw [hSeq_n]
    rw [n30_14]
    kernel_rfl
theorem f30_eq (call : Handle) (k : Nat) (p0 p1 : Value) (H : GH) : gFunc Tryd.prog call k Tryd.f30 [p0, p1] H = f30_sh call k p0 p1 H :=
  Eq.trans (by kernel_rfl) (f30_run call k p0 p1 H)
end
noncomputable def g31 {β : Type} (call : Handle) (k : Nat) (p : List Nat) : GA → GH → Kont β → M β := gCode Tryd.prog call k (fAt Tryd.f31 p)
noncomputable def o31 {β : Type} (d : Nat) (call : Handle) (p : List Nat) (i : Nat) : GA → GH → (GA → GH → M β) → M β := gOps Tryd.prog d call (opsAt (fAt Tryd.f31 p)) i ((opsAt (fAt Tryd.f31 p)).drop i)
noncomputable def t31 {β : Type} (d : Nat) (call : Handle) (p : List Nat) (i n : Nat) : GA → GH → (GA → GH → M β) → M β := gOps Tryd.prog d call (opsAt (fAt Tryd.f31 p)) i (((opsAt (fAt Tryd.f31 p)).drop i).take n)
theorem o31_s {β : Type} {d : Nat} {call : Handle} {p : List Nat} {a : GA} {H : GH} {K : GA → GH → M β} (i n : Nat) : o31 d call p i a H K = t31 d call p i n a H fun a H => o31 d call p (i + n) a H K := gOps_split i n
section
variable {β : Type} {call : Handle} {k : Nat} {a : GA} {K : Kont β} {K' : GA → GH → M β}
variable {d : Nat → Value} {xg : Value}
variable {p0 p1 : Value}
variable {v1 v2 : Value}
variable {H : GH}
theorem n31_0 : g31 call k [] a H K = g31 call k [0] a H (hSeq (g31 call k [1]) K) := at_seq (by kernel_rfl)
theorem n31_1 : g31 call k [0] a H K = o31 0 call [0] 0 a H (K .normal) := at_region (by kernel_rfl)
theorem n31_2 : g31 call k [1] a H K = g31 call k [1,0] a H (hSeq (g31 call k [1,1]) K) := at_seq (by kernel_rfl)
theorem n31_3 : g31 call k [1,0] a H K = g31 call k [1,0,0] a H (hSeq (g31 call k [1,0,1]) K) := at_seq (by kernel_rfl)
theorem n31_4 : g31 call k [1,0,0] a H K = o31 0 call [1,0,0] 0 a H (K .normal) := at_region (by kernel_rfl)
theorem n31_5 : g31 call k [1,0,1] a H K = onBool (asB (GA.eval a (.tmp 6))) (g31 call k [1,0,1,0] a H K) (g31 call k [1,0,1,1] a H K) := at_cond (by kernel_rfl)
theorem n31_6 : g31 call k [1,0,1,0] a H K = o31 0 call [1,0,1,0] 0 a H (K .normal) := at_region (by kernel_rfl)
theorem n31_7 : g31 call k [1,0,1,1] a H K = K .normal a H := at_skip (by kernel_rfl)
theorem n31_8 : g31 call k [1,1] a H K = g31 call k [1,1,0] a H (hSeq (g31 call k [1,1,1]) K) := at_seq (by kernel_rfl)
theorem n31_9 : g31 call k [1,1,0] a H K = o31 0 call [1,1,0] 0 a H (K .normal) := at_region (by kernel_rfl)
theorem n31_10 : g31 call k [1,1,1] a H K = K .ret a H := at_ret (by kernel_rfl)
theorem s31_0 : o31 0 call [0] 0 (FG 9 (fun _ => undef) [(1, p1), (0, p0)]) H K' =
  K' (FG 9 (fun _ => undef) [(4, .nilFunc), (3, (.pointer (some ⟨(GH.push H (.row (Value.cells p0).toList 24 false)).n, 0, none⟩))), (2, (.pointer (some ⟨H.n, 0, none⟩))), (1, p1), (0, p0)]) (GH.push (GH.push H (.row (Value.cells p0).toList 24 false)) (.row (Value.cells p1).toList 3 false)) := by kernel_rfl
theorem s31_1 : o31 0 call [1,0,0] 0 (FG 9 (fun _ => undef) [(4, .nilFunc), (3, (.pointer (some ⟨(GH.push H (.row (Value.cells p0).toList 24 false)).n, 0, none⟩))), (2, (.pointer (some ⟨H.n, 0, none⟩))), (1, p1), (0, p0)]) (GH.push (GH.push H (.row (Value.cells p0).toList 24 false)) (.row (Value.cells p1).toList 3 false)) K' =
  onV (gLoad Tryd.prog 3 (.pointer (some ⟨(GH.push H (.row (Value.cells p0).toList 24 false)).n, 0, none⟩)) (GH.push (GH.push H (.row (Value.cells p0).toList 24 false)) (.row (Value.cells p1).toList 3 false))) fun v1 =>
  onV ((oBin Tryd.prog .lss 3 v1 (.int .i64 1)).filter closed) fun v2 =>
  K' (FG 9 (fun _ => undef) [(6, v2), (5, v1), (4, .nilFunc), (3, (.pointer (some ⟨(GH.push H (.row (Value.cells p0).toList 24 false)).n, 0, none⟩))), (2, (.pointer (some ⟨H.n, 0, none⟩))), (1, p1), (0, p0)]) (GH.push (GH.push H (.row (Value.cells p0).toList 24 false)) (.row (Value.cells p1).toList 3 false)) := by kernel_rfl
theorem s31_2 : o31 0 call [1,0,1,0] 0 (FG 9 (fun _ => undef) [(6, v2), (5, v1), (4, .nilFunc), (3, (.pointer (some ⟨(GH.push H (.row (Value.cells p0).toList 24 false)).n, 0, none⟩))), (2, (.pointer (some ⟨H.n, 0, none⟩))), (1, p1), (0, p0)]) (GH.push (GH.push H (.row (Value.cells p0).toList 24 false)) (.row (Value.cells p1).toList 3 false)) K' =
  onV (oIface Tryd.prog 9 (.string ⟨#[99, 97, 110, 110, 111, 116, 32, 98, 101, 32, 108, 101, 115, 115, 32, 116, 104, 97, 110, 32, 49]⟩)) fun v3 =>
  none := by kernel_rfl
theorem s31_3 : o31 0 call [1,1,0] 0 (FG 9 (fun _ => undef) [(6, v2), (5, v1), (4, .nilFunc), (3, (.pointer (some ⟨(GH.push H (.row (Value.cells p0).toList 24 false)).n, 0, none⟩))), (2, (.pointer (some ⟨H.n, 0, none⟩))), (1, p1), (0, p0)]) (GH.push (GH.push H (.row (Value.cells p0).toList 24 false)) (.row (Value.cells p1).toList 3 false)) K' =
  K' (FG 9 (fun _ => undef) [(4, (.func (.func 35) #[] #[(.pointer (some ⟨H.n, 0, none⟩)), (.pointer (some ⟨(GH.push H (.row (Value.cells p0).toList 24 false)).n, 0, none⟩))])), (8, (.func (.func 35) #[] #[(.pointer (some ⟨H.n, 0, none⟩)), (.pointer (some ⟨(GH.push H (.row (Value.cells p0).toList 24 false)).n, 0, none⟩))])), (6, v2), (5, v1), (4, .nilFunc), (3, (.pointer (some ⟨(GH.push H (.row (Value.cells p0).toList 24 false)).n, 0, none⟩))), (2, (.pointer (some ⟨H.n, 0, none⟩))), (1, p1), (0, p0)]) (GH.push (GH.push H (.row (Value.cells p0).toList 24 false)) (.row (Value.cells p1).toList 3 false)) := by kernel_rfl
noncomputable def f31_sh (call : Handle) (k : Nat) (p0 p1 : Value) (H : GH) : M (Value × GH) :=
  onV (gLoad Tryd.prog 3 (.pointer (some ⟨(GH.push H (.row (Value.cells p0).toList 24 false)).n, 0, none⟩)) (GH.push (GH.push H (.row (Value.cells p0).toList 24 false)) (.row (Value.cells p1).toList 3 false))) fun v1 =>
  onV ((oBin Tryd.prog .lss 3 v1 (.int .i64 1)).filter closed) fun v2 =>
  onBool (asB v2)
  (onV (oIface Tryd.prog 9 (.string ⟨#[99, 97, 110, 110, 111, 116, 32, 98, 101, 32, 108, 101, 115, 115, 32, 116, 104, 97, 110, 32, 49]⟩)) fun v3 =>
  none)
  (some [((.func (.func 35) #[] #[(.pointer (some ⟨H.n, 0, none⟩)), (.pointer (some ⟨(GH.push H (.row (Value.cells p0).toList 24 false)).n, 0, none⟩))]), (GH.push (GH.push H (.row (Value.cells p0).toList 24 false)) (.row (Value.cells p1).toList 3 false)))])
theorem f31_run (call : Handle) (k : Nat) (p0 p1 : Value) (H : GH) : g31 call k [] (FG 9 (fun _ => undef) [(1, p1), (0, p0)]) H (hFin Tryd.prog Tryd.f31) = f31_sh call k p0 p1 H := by
  unfold f31_sh
  rw [n31_0]
  rw [n31_1]
  rw [s31_0]
  rw [hSeq_n]
  rw [n31_2]
  rw [n31_3]
  rw [n31_4]
  rw [s31_1]
  refine onV_c fun v1 => ?_
  refine onV_c fun v2 => ?_
  rw [hSeq_n]
  rw [n31_5]
  refine onBool_cc (by kernel_rfl) ?_ ?_
  · rw [n31_6]
    refine (s31_2).trans ?_
    refine onV_c fun v3 => ?_
    rfl
  · rw [n31_7]
    rw [hSeq_n]
    rw [n31_8]
    rw [n31_9]
    rw [s31_3]
    rw [hSeq_n]
    rw [n31_10]
    kernel_rfl
theorem f31_eq (call : Handle) (k : Nat) (p0 p1 : Value) (H : GH) : gFunc Tryd.prog call k Tryd.f31 [p0, p1] H = f31_sh call k p0 p1 H :=
  Eq.trans (by kernel_rfl) (f31_run call k p0 p1 H)
end
noncomputable def g32 {β : Type} (call : Handle) (k : Nat) (p : List Nat) : GA → GH → Kont β → M β := gCode Tryd.prog call k (fAt Tryd.f32 p)
noncomputable def o32 {β : Type} (d : Nat) (call : Handle) (p : List Nat) (i : Nat) : GA → GH → (GA → GH → M β) → M β := gOps Tryd.prog d call (opsAt (fAt Tryd.f32 p)) i ((opsAt (fAt Tryd.f32 p)).drop i)
noncomputable def t32 {β : Type} (d : Nat) (call : Handle) (p : List Nat) (i n : Nat) : GA → GH → (GA → GH → M β) → M β := gOps Tryd.prog d call (opsAt (fAt Tryd.f32 p)) i (((opsAt (fAt Tryd.f32 p)).drop i).take n)
theorem o32_s {β : Type} {d : Nat} {call : Handle} {p : List Nat} {a : GA} {H : GH} {K : GA → GH → M β} (i n : Nat) : o32 d call p i a H K = t32 d call p i n a H fun a H => o32 d call p (i + n) a H K := gOps_split i n
section
variable {β : Type} {call : Handle} {k : Nat} {a : GA} {K : Kont β} {K' : GA → GH → M β}
variable {d : Nat → Value} {xg : Value}
variable {p0 : Value}
variable {v1 v2 v3 v4 v5 v7 v8 v9 : Value}
variable {H H6 H8 : GH}
theorem n32_0 : g32 call k [] a H K = g32 call k [0] a H (hSeq (g32 call k [1]) K) := at_seq (by kernel_rfl)
theorem n32_1 : g32 call k [0] a H K = o32 0 call [0] 0 a H (K .normal) := at_region (by kernel_rfl)
theorem n32_2 : g32 call k [1] a H K = g32 call k [1,0] a H (hSeq (g32 call k [1,1]) K) := at_seq (by kernel_rfl)
theorem n32_3 : g32 call k [1,0] a H K = o32 1 call [1,0] 0 a H (K .normal) := at_region (by kernel_rfl)
theorem n32_4 : g32 call k [1,1] a H K = g32 call k [1,1,0] a H (hSeq (g32 call k [1,1,1]) K) := at_seq (by kernel_rfl)
theorem n32_5 : g32 call k [1,1,0] a H K = g32 call k [1,1,0,0] a H (hSeq (g32 call k [1,1,0,1]) K) := at_seq (by kernel_rfl)
theorem n32_6 : g32 call k [1,1,0,0] a H K = o32 0 call [1,1,0,0] 0 a H (K .normal) := at_region (by kernel_rfl)
theorem n32_7 : g32 call k [1,1,0,1] a H K = onBool (asB (GA.eval a (.tmp 16))) (g32 call k [1,1,0,1,0] a H K) (g32 call k [1,1,0,1,1] a H K) := at_cond (by kernel_rfl)
theorem n32_8 : g32 call k [1,1,0,1,0] a H K = o32 0 call [1,1,0,1,0] 0 a H (K .normal) := at_region (by kernel_rfl)
theorem n32_9 : g32 call k [1,1,0,1,1] a H K = K .normal a H := at_skip (by kernel_rfl)
theorem n32_10 : g32 call k [1,1,1] a H K = g32 call k [1,1,1,0] a H (hSeq (g32 call k [1,1,1,1]) K) := at_seq (by kernel_rfl)
theorem n32_11 : g32 call k [1,1,1,0] a H K = g32 call k [1,1,1,0,0] a H (hSeq (g32 call k [1,1,1,0,1]) K) := at_seq (by kernel_rfl)
theorem n32_12 : g32 call k [1,1,1,0,0] a H K = o32 0 call [1,1,1,0,0] 0 a H (K .normal) := at_region (by kernel_rfl)
theorem n32_13 : g32 call k [1,1,1,0,1] a H K = onBool (asB (GA.eval a (.tmp 22))) (g32 call k [1,1,1,0,1,0] a H K) (g32 call k [1,1,1,0,1,1] a H K) := at_cond (by kernel_rfl)
theorem n32_14 : g32 call k [1,1,1,0,1,0] a H K = o32 0 call [1,1,1,0,1,0] 0 a H (K .normal) := at_region (by kernel_rfl)
theorem n32_15 : g32 call k [1,1,1,0,1,1] a H K = K .normal a H := at_skip (by kernel_rfl)
theorem n32_16 : g32 call k [1,1,1,1] a H K = g32 call k [1,1,1,1,0] a H (hSeq (g32 call k [1,1,1,1,1]) K) := at_seq (by kernel_rfl)
theorem n32_17 : g32 call k [1,1,1,1,0] a H K = o32 0 call [1,1,1,1,0] 0 a H (K .normal) := at_region (by kernel_rfl)
theorem n32_18 : g32 call k [1,1,1,1,1] a H K = g32 call k [1,1,1,1,1,0] a H (hSeq (g32 call k [1,1,1,1,1,1]) K) := at_seq (by kernel_rfl)
theorem n32_19 : g32 call k [1,1,1,1,1,0] a H K = g32 call k [1,1,1,1,1,0,0] a H (hSeq (g32 call k [1,1,1,1,1,0,1]) K) := at_seq (by kernel_rfl)
theorem n32_20 : g32 call k [1,1,1,1,1,0,0] a H K = o32 0 call [1,1,1,1,1,0,0] 0 a H (K .normal) := at_region (by kernel_rfl)
theorem n32_21 : g32 call k [1,1,1,1,1,0,1] a H K = onBool (asB (GA.eval a (.tmp 33))) (g32 call k [1,1,1,1,1,0,1,0] a H K) (g32 call k [1,1,1,1,1,0,1,1] a H K) := at_cond (by kernel_rfl)
theorem n32_22 : g32 call k [1,1,1,1,1,0,1,1] a H K = K .normal a H := at_skip (by kernel_rfl)
theorem n32_23 : g32 call k [1,1,1,1,1,1] a H K = g32 call k [1,1,1,1,1,1,0] a H (hSeq (g32 call k [1,1,1,1,1,1,1]) K) := at_seq (by kernel_rfl)
theorem n32_24 : g32 call k [1,1,1,1,1,1,0] a H K = o32 0 call [1,1,1,1,1,1,0] 0 a H (K .normal) := at_region (by kernel_rfl)
theorem n32_25 : g32 call k [1,1,1,1,1,1,1] a H K = K .ret a H := at_ret (by kernel_rfl)
theorem n32_26 : g32 call k [1,1,1,1,1,0,1,0] a H K = o32 0 call [1,1,1,1,1,0,1,0] 0 a H (K .normal) := at_region (by kernel_rfl)
theorem s32_0 : o32 0 call [0] 0 (FG 42 (fun _ => undef) [(0, p0)]) H K' =
  K' (FG 42 (fun _ => undef) [(2, (.pointer (some ⟨H.n, 0, none⟩))), (0, p0)]) (GH.push H (.row [(.int .u8 0), (.int .u8 0), (.int .u8 0), (.int .i64 0), (.int .u8 0), (.int .i64 0)] 48 false)) := by kernel_rfl
theorem s32_1 : o32 1 call [1,0] 0 (FG 42 (fun _ => undef) [(2, (.pointer (some ⟨H.n, 0, none⟩))), (0, p0)]) (GH.push H (.row [(.int .u8 0), (.int .u8 0), (.int .u8 0), (.int .i64 0), (.int .u8 0), (.int .i64 0)] 48 false)) K' =
  onV (oIndexAddr Tryd.prog 24 p0 (.int .i64 0)) fun v1 =>
  onV (gLoad Tryd.prog 5 v1 (GH.push H (.row [(.int .u8 0), (.int .u8 0), (.int .u8 0), (.int .i64 0), (.int .u8 0), (.int .i64 0)] 48 false))) fun v2 =>
  onV ((oBin Tryd.prog .rem 5 v2 (.int .u8 16)).filter closed) fun v3 =>
  onV (oIndexAddr Tryd.prog 24 p0 (.int .i64 2)) fun v4 =>
  onV (gLoad Tryd.prog 5 v4 (GH.push H (.row [(.int .u8 0), (.int .u8 0), (.int .u8 0), (.int .i64 0), (.int .u8 0), (.int .i64 0)] 48 false))) fun v5 =>
  onV (oBuild Tryd.prog 48 [(0, v3), (3, v5)]) fun v6 =>
  onH (gStore Tryd.prog 48 (.pointer (some ⟨(GH.push H (.row [(.int .u8 0), (.int .u8 0), (.int .u8 0), (.int .i64 0), (.int .u8 0), (.int .i64 0)] 48 false)).n, 0, none⟩)) v6 (GH.push (GH.push H (.row [(.int .u8 0), (.int .u8 0), (.int .u8 0), (.int .i64 0), (.int .u8 0), (.int .i64 0)] 48 false)) (.row [(.int .u8 0), (.int .u8 0), (.int .u8 0), (.int .i64 0), (.int .u8 0), (.int .i64 0)] 48 false))) fun H7 =>
  K' (FG 42 (fun _ => undef) [(3, (.pointer (some ⟨(GH.push H (.row [(.int .u8 0), (.int .u8 0), (.int .u8 0), (.int .i64 0), (.int .u8 0), (.int .i64 0)] 48 false)).n, 0, none⟩))), (11, v6), (10, v5), (9, v4), (8, p0), (7, v3), (6, v2), (5, v1), (4, p0), (2, (.pointer (some ⟨H.n, 0, none⟩))), (0, p0)]) H7 := by kernel_rfl
theorem s32_2 : o32 0 call [1,1,0,0] 0 (FF 42 d) H K' =
  onV (oIndexAddr Tryd.prog 24 (d 0) (.int .i64 0)) fun v1 =>
  onV (gLoad Tryd.prog 5 v1 H) fun v2 =>
  onV ((oBin Tryd.prog .and 5 v2 (.int .u8 16)).filter closed) fun v3 =>
  onV ((oBin Tryd.prog .neq 5 v3 (.int .u8 0)).filter closed) fun v4 =>
  K' (FG 42 d [(16, v4), (15, v3), (14, v2), (13, v1), (12, (d 0))]) H := by kernel_rfl
theorem s32_3 : o32 0 call [1,1,0,1,0] 0 (FG 42 d [(16, v4), (15, v3), (14, v2), (13, v1), (12, (d 0))]) H K' =
  onV (oFieldAddr Tryd.prog 48 (d 3) 1) fun v5 =>
  onH (gStore Tryd.prog 43 v5 (.int .u8 1) H) fun H6 =>
  K' (FG 42 d [(17, v5), (16, v4), (15, v3), (14, v2), (13, v1), (12, (d 0))]) H6 := by kernel_rfl
theorem s32_4 : o32 0 call [1,1,1,0,0] 0 (FF 42 d) H K' =
  onV (oIndexAddr Tryd.prog 24 (d 0) (.int .i64 0)) fun v1 =>
  onV (gLoad Tryd.prog 5 v1 H) fun v2 =>
  onV ((oBin Tryd.prog .and 5 v2 (.int .u8 32)).filter closed) fun v3 =>
  onV ((oBin Tryd.prog .neq 5 v3 (.int .u8 0)).filter closed) fun v4 =>
  K' (FG 42 d [(22, v4), (21, v3), (20, v2), (19, v1), (18, (d 0))]) H := by kernel_rfl
theorem s32_5 : o32 0 call [1,1,1,0,1,0] 0 (FG 42 d [(22, v4), (21, v3), (20, v2), (19, v1), (18, (d 0))]) H K' =
  onV (oFieldAddr Tryd.prog 48 (d 3) 2) fun v5 =>
  onV (oFieldAddr Tryd.prog 46 v5 0) fun v6 =>
  onH (gStore Tryd.prog 44 v6 (.int .u8 1) H) fun H7 =>
  K' (FG 42 d [(24, v6), (23, v5), (22, v4), (21, v3), (20, v2), (19, v1), (18, (d 0))]) H7 := by kernel_rfl
theorem s32_6 : o32 0 call [1,1,1,1,0] 0 (FF 42 d) H K' =
  onV (oIndexAddr Tryd.prog 24 (d 0) (.int .i64 1)) fun v1 =>
  onV (gLoad Tryd.prog 5 v1 H) fun v2 =>
  onV ((oConvert Tryd.prog 5 3 v2).filter closed) fun v3 =>
  onV (oFieldAddr Tryd.prog 48 (d 3) 2) fun v4 =>
  onV (oFieldAddr Tryd.prog 46 v4 1) fun v5 =>
  onH (gStore Tryd.prog 3 v5 v3 H) fun H6 =>
  K' (FG 42 d [(30, v5), (29, v4), (28, v3), (27, v2), (26, v1), (25, (d 0))]) H6 := by kernel_rfl
theorem s32_7 : o32 0 call [1,1,1,1,1,0,0] 0 (FG 42 d [(30, v5), (29, v4), (28, v3), (27, v2), (26, v1), (25, (d 0))]) H6 K' =
  onV (oFieldAddr Tryd.prog 48 (d 3) 0) fun v7 =>
  onV (gLoad Tryd.prog 42 v7 H6) fun v8 =>
  onV ((oBin Tryd.prog .eql 42 v8 (.int .u8 3)).filter closed) fun v9 =>
  K' (FG 42 d [(33, v9), (32, v8), (31, v7), (30, v5), (29, v4), (28, v3), (27, v2), (26, v1), (25, (d 0))]) H6 := by kernel_rfl
theorem s32_8 : o32 0 call [1,1,1,1,1,1,0] 0 (FG 42 d [(33, v9), (32, v8), (31, v7), (30, v5), (29, v4), (28, v3), (27, v2), (26, v1), (25, (d 0))]) H6 K' =
  onV (gLoad Tryd.prog 48 (d 3) H6) fun v10 =>
  onH (gStore Tryd.prog 48 (d 2) v10 H6) fun H11 =>
  K' (FG 42 d [(41, v10), (33, v9), (32, v8), (31, v7), (30, v5), (29, v4), (28, v3), (27, v2), (26, v1), (25, (d 0))]) H11 := by kernel_rfl
theorem s32_9 : o32 0 call [1,1,1,1,1,0,1,0] 0 (FF 42 d) H K' =
  onV (oIndexAddr Tryd.prog 24 (d 0) (.int .i64 2)) fun v1 =>
  onV (gLoad Tryd.prog 5 v1 H) fun v2 =>
  onV ((oConvert Tryd.prog 5 3 v2).filter closed) fun v3 =>
  onV ((oBin Tryd.prog .sub 3 v3 (.int .i64 16)).filter closed) fun v4 =>
  onV (oFieldAddr Tryd.prog 48 (d 3) 4) fun v5 =>
  onH (gStore Tryd.prog 3 v5 v4 H) fun H6 =>
  onV (oFieldAddr Tryd.prog 48 (d 3) 3) fun v7 =>
  onH (gStore Tryd.prog 5 v7 (.int .u8 0) H6) fun H8 =>
  K' (FG 42 d [(40, v7), (39, v5), (38, v4), (37, v3), (36, v2), (35, v1), (34, (d 0))]) H8 := by kernel_rfl
theorem s32_10 : o32 0 call [1,1,1,1,1,1,0] 0 (FG 42 d [(40, v7), (39, v5), (38, v4), (37, v3), (36, v2), (35, v1), (34, (d 0))]) H8 K' =
  onV (gLoad Tryd.prog 48 (d 3) H8) fun v9 =>
  onH (gStore Tryd.prog 48 (d 2) v9 H8) fun H10 =>
  K' (FG 42 d [(41, v9), (40, v7), (39, v5), (38, v4), (37, v3), (36, v2), (35, v1), (34, (d 0))]) H10 := by kernel_rfl
noncomputable def f32_r8 (call : Handle) (k : Nat) (x0 x2 x3 : Value) (H : GH) : M (Value × GH) :=
  onV (oIndexAddr Tryd.prog 24 x0 (.int .i64 2)) fun v1 =>
  onV (gLoad Tryd.prog 5 v1 H) fun v2 =>
  onV ((oConvert Tryd.prog 5 3 v2).filter closed) fun v3 =>
  onV ((oBin Tryd.prog .sub 3 v3 (.int .i64 16)).filter closed) fun v4 =>
  onV (oFieldAddr Tryd.prog 48 x3 4) fun v5 =>
  onH (gStore Tryd.prog 3 v5 v4 H) fun H6 =>
  onV (oFieldAddr Tryd.prog 48 x3 3) fun v7 =>
  onH (gStore Tryd.prog 5 v7 (.int .u8 0) H6) fun H8 =>
  onV (gLoad Tryd.prog 48 x3 H8) fun v9 =>
  onH (gStore Tryd.prog 48 x2 v9 H8) fun H10 =>
  onV (gResL Tryd.prog H10 [(x2, some 48)]) fun v => some [(v, H10)]
theorem f32_r8_eq (call : Handle) (k : Nat) : g32 call k [1,1,1,1,1,0,1,0] (FF 42 d) H (hSeq (g32 call k [1,1,1,1,1,1]) (hFin Tryd.prog Tryd.f32)) = f32_r8 call k (d 0) (d 2) (d 3) H := by
  unfold f32_r8
  rw [n32_26]
  rw [s32_9]
  refine onV_c fun v1 => ?_
  refine onV_c fun v2 => ?_
  refine onV_c fun v3 => ?_
  refine onV_c fun v4 => ?_
  refine onV_c fun v5 => ?_
  refine onH_c fun H6 => ?_
  refine onV_c fun v7 => ?_
  refine onH_c fun H8 => ?_
  rw [hSeq_n]
  rw [n32_23]
  rw [n32_24]
  rw [s32_10]
  refine onV_c fun v9 => ?_
  refine onH_c fun H10 => ?_
  rw [hSeq_n]
  rw [n32_25]
  kernel_rfl
noncomputable def f32_r6 (call : Handle) (k : Nat) (x0 x2 x3 : Value) (H : GH) : M (Value × GH) :=
  onV (oIndexAddr Tryd.prog 24 x0 (.int .i64 1)) fun v1 =>
  onV (gLoad Tryd.prog 5 v1 H) fun v2 =>
  onV ((oConvert Tryd.prog 5 3 v2).filter closed) fun v3 =>
  onV (oFieldAddr Tryd.prog 48 x3 2) fun v4 =>
  onV (oFieldAddr Tryd.prog 46 v4 1) fun v5 =>
  onH (gStore Tryd.prog 3 v5 v3 H) fun H6 =>
  onV (oFieldAddr Tryd.prog 48 x3 0) fun v7 =>
  onV (gLoad Tryd.prog 42 v7 H6) fun v8 =>
  onV ((oBin Tryd.prog .eql 42 v8 (.int .u8 3)).filter closed) fun v9 =>
  onBool (asB v9)
  ((f32_r8 call k x0 x2 x3 H6))
  (onV (gLoad Tryd.prog 48 x3 H6) fun v10 =>
  onH (gStore Tryd.prog 48 x2 v10 H6) fun H11 =>
  onV (gResL Tryd.prog H11 [(x2, some 48)]) fun v => some [(v, H11)])
theorem f32_r6_eq (call : Handle) (k : Nat) : g32 call k [1,1,1,1] (FF 42 d) H (hFin Tryd.prog Tryd.f32) = f32_r6 call k (d 0) (d 2) (d 3) H := by
  unfold f32_r6
  rw [n32_16]
  rw [n32_17]
  rw [s32_6]
  refine onV_c fun v1 => ?_
  refine onV_c fun v2 => ?_
  refine onV_c fun v3 => ?_
  refine onV_c fun v4 => ?_
  refine onV_c fun v5 => ?_
  refine onH_c fun H6 => ?_
  rw [hSeq_n]
  rw [n32_18]
  rw [n32_19]
  rw [n32_20]
  rw [s32_7]
  refine onV_c fun v7 => ?_
  refine onV_c fun v8 => ?_
  refine onV_c fun v9 => ?_
  rw [hSeq_n]
  rw [n32_21]
  refine onBool_cc (by kernel_rfl) ?_ ?_
  · generalize e : (FG 42 d [(33, v9), (32, v8), (31, v7), (30, v5), (29, v4), (28, v3), (27, v2), (26, v1), (25, (d 0))]) = a
    rw [show a = (FF 42 (gf a)) from (FF_gf (by subst e; exact FG_len)).symm]
    exact (f32_r8_eq (d := gf a) call k).trans (by subst e; kernel_rfl)
  · rw [n32_22]
    rw [hSeq_n]
    rw [n32_23]
    rw [n32_24]
    rw [s32_8]
    refine onV_c fun v10 => ?_
    refine onH_c fun H11 => ?_
    rw [hSeq_n]
    rw [n32_25]
    kernel_rfl
noncomputable def f32_r4 (call : Handle) (k : Nat) (x0 x2 x3 : Value) (H : GH) : M (Value × GH) :=
  onV (oIndexAddr Tryd.prog 24 x0 (.int .i64 0)) fun v1 =>
  onV (gLoad Tryd.prog 5 v1 H) fun v2 =>
  onV ((oBin Tryd.prog .and 5 v2 (.int .u8 32)).filter closed) fun v3 =>
  onV ((oBin Tryd.prog .neq 5 v3 (.int .u8 0)).filter closed) fun v4 =>
  onBool (asB v4)
  (onV (oFieldAddr Tryd.prog 48 x3 2) fun v5 =>
  onV (oFieldAddr Tryd.prog 46 v5 0) fun v6 =>
  onH (gStore Tryd.prog 44 v6 (.int .u8 1) H) fun H7 =>
  (f32_r6 call k x0 x2 x3 H7))
  ((f32_r6 call k x0 x2 x3 H))
theorem f32_r4_eq (call : Handle) (k : Nat) : g32 call k [1,1,1] (FF 42 d) H (hFin Tryd.prog Tryd.f32) = f32_r4 call k (d 0) (d 2) (d 3) H := by
  unfold f32_r4
  rw [n32_10]
  rw [n32_11]
  rw [n32_12]
  rw [s32_4]
  refine onV_c fun v1 => ?_
  refine onV_c fun v2 => ?_
  refine onV_c fun v3 => ?_
  refine onV_c fun v4 => ?_
  rw [hSeq_n]
  rw [n32_13]
  refine onBool_cc (by kernel_rfl) ?_ ?_
  · rw [n32_14]
    rw [s32_5]
    refine onV_c fun v5 => ?_
    refine onV_c fun v6 => ?_
    refine onH_c fun H7 => ?_
    rw [hSeq_n]
    generalize e : (FG 42 d [(24, v6), (23, v5), (22, v4), (21, v3), (20, v2), (19, v1), (18, (d 0))]) = a
    rw [show a = (FF 42 (gf a)) from (FF_gf (by subst e; exact FG_len)).symm]
    exact (f32_r6_eq (d := gf a) call k).trans (by subst e; kernel_rfl)
  · rw [n32_15]
    rw [hSeq_n]
    generalize e : (FG 42 d [(22, v4), (21, v3), (20, v2), (19, v1), (18, (d 0))]) = a
    rw [show a = (FF 42 (gf a)) from (FF_gf (by subst e; exact FG_len)).symm]
    exact (f32_r6_eq (d := gf a) call k).trans (by subst e; kernel_rfl)
noncomputable def f32_r2 (call : Handle) (k : Nat) (x0 x2 x3 : Value) (H : GH) : M (Value × GH) :=
  onV (oIndexAddr Tryd.prog 24 x0 (.int .i64 0)) fun v1 =>
  onV (gLoad Tryd.prog 5 v1 H) fun v2 =>
  onV ((oBin Tryd.prog .and 5 v2 (.int .u8 16)).filter closed) fun v3 =>
  onV ((oBin Tryd.prog .neq 5 v3 (.int .u8 0)).filter closed) fun v4 =>
  onBool (asB v4)
  (onV (oFieldAddr Tryd.prog 48 x3 1) fun v5 =>
  onH (gStore Tryd.prog 43 v5 (.int .u8 1) H) fun H6 =>
  (f32_r4 call k x0 x2 x3 H6))
  ((f32_r4 call k x0 x2 x3 H))
theorem f32_r2_eq (call : Handle) (k : Nat) : g32 call k [1,1,0,0] (FF 42 d) H (hSeq (g32 call k [1,1,0,1]) (hSeq (g32 call k [1,1,1]) (hFin Tryd.prog Tryd.f32))) = f32_r2 call k (d 0) (d 2) (d 3) H := by
  unfold f32_r2
  rw [n32_6]
  rw [s32_2]
  refine onV_c fun v1 => ?_
  refine onV_c fun v2 => ?_
  refine onV_c fun v3 => ?_
  refine onV_c fun v4 => ?_
  rw [hSeq_n]
  rw [n32_7]
  refine onBool_cc (by kernel_rfl) ?_ ?_
  · rw [n32_8]
    rw [s32_3]
    refine onV_c fun v5 => ?_
    refine onH_c fun H6 => ?_
    rw [hSeq_n]
    generalize e : (FG 42 d [(17, v5), (16, v4), (15, v3), (14, v2), (13, v1), (12, (d 0))]) = a
    rw [show a = (FF 42 (gf a)) from (FF_gf (by subst e; exact FG_len)).symm]
    exact (f32_r4_eq (d := gf a) call k).trans (by subst e; kernel_rfl)
  · rw [n32_9]
    rw [hSeq_n]
    generalize e : (FG 42 d [(16, v4), (15, v3), (14, v2), (13, v1), (12, (d 0))]) = a
    rw [show a = (FF 42 (gf a)) from (FF_gf (by subst e; exact FG_len)).symm]
    exact (f32_r4_eq (d := gf a) call k).trans (by subst e; kernel_rfl)
noncomputable def f32_sh (call : Handle) (k : Nat) (p0 : Value) (H : GH) : M (Value × GH) :=
  onV (oIndexAddr Tryd.prog 24 p0 (.int .i64 0)) fun v1 =>
  onV (gLoad Tryd.prog 5 v1 (GH.push H (.row [(.int .u8 0), (.int .u8 0), (.int .u8 0), (.int .i64 0), (.int .u8 0), (.int .i64 0)] 48 false))) fun v2 =>
  onV ((oBin Tryd.prog .rem 5 v2 (.int .u8 16)).filter closed) fun v3 =>
  onV (oIndexAddr Tryd.prog 24 p0 (.int .i64 2)) fun v4 =>
  onV (gLoad Tryd.prog 5 v4 (GH.push H (.row [(.int .u8 0), (.int .u8 0), (.int .u8 0), (.int .i64 0), (.int .u8 0), (.int .i64 0)] 48 false))) fun v5 =>
  onV (oBuild Tryd.prog 48 [(0, v3), (3, v5)]) fun v6 =>
  onH (gStore Tryd.prog 48 (.pointer (some ⟨(GH.push H (.row [(.int .u8 0), (.int .u8 0), (.int .u8 0), (.int .i64 0), (.int .u8 0), (.int .i64 0)] 48 false)).n, 0, none⟩)) v6 (GH.push (GH.push H (.row [(.int .u8 0), (.int .u8 0), (.int .u8 0), (.int .i64 0), (.int .u8 0), (.int .i64 0)] 48 false)) (.row [(.int .u8 0), (.int .u8 0), (.int .u8 0), (.int .i64 0), (.int .u8 0), (.int .i64 0)] 48 false))) fun H7 =>
  (f32_r2 call k p0 (.pointer (some ⟨H.n, 0, none⟩)) (.pointer (some ⟨(GH.push H (.row [(.int .u8 0), (.int .u8 0), (.int .u8 0), (.int .i64 0), (.int .u8 0), (.int .i64 0)] 48 false)).n, 0, none⟩)) H7)
theorem f32_run (call : Handle) (k : Nat) (p0 : Value) (H : GH) : g32 call k [] (FG 42 (fun _ => undef) [(0, p0)]) H (hFin Tryd.prog Tryd.f32) = f32_sh call k p0 H := by
  unfold f32_sh
  rw [n32_0]
  rw [n32_1]
  rw [s32_0]
  rw [hSeq_n]
  rw [n32_2]
  rw [n32_3]
  rw [s32_1]
  refine onV_c fun v1 => ?_
  refine onV_c fun v2 => ?_
  refine onV_c fun v3 => ?_
  refine onV_c fun v4 => ?_
  refine onV_c fun v5 => ?_
  refine onV_c fun v6 => ?_
  refine onH_c fun H7 => ?_
  rw [hSeq_n]
  rw [n32_4]
  rw [n32_5]
  generalize e : (FG 42 (fun _ => undef) [(3, (.pointer (some ⟨(GH.push H (.row [(.int .u8 0), (.int .u8 0), (.int .u8 0), (.int .i64 0), (.int .u8 0), (.int .i64 0)] 48 false)).n, 0, none⟩))), (11, v6), (10, v5), (9, v4), (8, p0), (7, v3), (6, v2), (5, v1), (4, p0), (2, (.pointer (some ⟨H.n, 0, none⟩))), (0, p0)]) = a
  rw [show a = (FF 42 (gf a)) from (FF_gf (by subst e; exact FG_len)).symm]
  exact (f32_r2_eq (d := gf a) call k).trans (by subst e; kernel_rfl)
theorem f32_eq (call : Handle) (k : Nat) (p0 : Value) (H : GH) : gFunc Tryd.prog call k Tryd.f32 [p0] H = f32_sh call k p0 H :=
  Eq.trans (by kernel_rfl) (f32_run call k p0 H)
end
noncomputable def g33 {β : Type} (call : Handle) (k : Nat) (p : List Nat) : GA → GH → Kont β → M β := gCode Tryd.prog call k (fAt Tryd.f33 p)
noncomputable def o33 {β : Type} (d : Nat) (call : Handle) (p : List Nat) (i : Nat) : GA → GH → (GA → GH → M β) → M β := gOps Tryd.prog d call (opsAt (fAt Tryd.f33 p)) i ((opsAt (fAt Tryd.f33 p)).drop i)
noncomputable def t33 {β : Type} (d : Nat) (call : Handle) (p : List Nat) (i n : Nat) : GA → GH → (GA → GH → M β) → M β := gOps Tryd.prog d call (opsAt (fAt Tryd.f33 p)) i (((opsAt (fAt Tryd.f33 p)).drop i).take n)
theorem o33_s {β : Type} {d : Nat} {call : Handle} {p : List Nat} {a : GA} {H : GH} {K : GA → GH → M β} (i n : Nat) : o33 d call p i a H K = t33 d call p i n a H fun a H => o33 d call p (i + n) a H K := gOps_split i n
section
variable {β : Type} {call : Handle} {k : Nat} {a : GA} {K : Kont β} {K' : GA → GH → M β}
variable {d : Nat → Value} {xg : Value}
variable {H : GH}
theorem n33_0 : g33 call k [] a H K = g33 call k [0] a H (hSeq (g33 call k [1]) K) := at_seq (by kernel_rfl)
theorem n33_1 : g33 call k [0] a H K = o33 0 call [0] 0 a H (K .normal) := at_region (by kernel_rfl)
theorem n33_2 : g33 call k [1] a H K = g33 call k [1,0] a H (hSeq (g33 call k [1,1]) K) := at_seq (by kernel_rfl)
theorem n33_3 : g33 call k [1,0] a H K = o33 0 call [1,0] 0 a H (K .normal) := at_region (by kernel_rfl)
theorem n33_4 : g33 call k [1,1] a H K = g33 call k [1,1,0] a H (hSeq (g33 call k [1,1,1]) K) := at_seq (by kernel_rfl)
theorem n33_5 : g33 call k [1,1,0] a H K = o33 0 call [1,1,0] 0 a H (K .normal) := at_region (by kernel_rfl)
theorem n33_6 : g33 call k [1,1,1] a H K = K .ret a H := at_ret (by kernel_rfl)
theorem s33_0 : o33 0 call [0] 0 (FF 13 (fun _ => undef)) H K' =
  K' (FG 13 (fun _ => undef) [(0, (.map none))]) H := by kernel_rfl
theorem s33_1 : o33 0 call [1,0] 0 (FG 13 (fun _ => undef) [(0, (.map none))]) H K' =
  onH (gStore Tryd.prog 80 (.pointer (some ⟨H.n, 0, none⟩)) (.agg #[(.bool true), (.bool true), (.bool true), (.bool false)]) (GH.push H (.row [(.bool false), (.bool false), (.bool false), (.bool false)] 80 false))) fun H1 =>
  K' (FG 13 (fun _ => undef) [(1, (.pointer (some ⟨H.n, 0, none⟩))), (2, (.agg #[(.bool true), (.bool true), (.bool true), (.bool false)])), (0, (.map none))]) H1 := by kernel_rfl
theorem s33_2 : o33 0 call [1,1,0] 0 (FF 13 d) H K' =
  onH (gMapUpdate Tryd.prog 82 (.map (some H.n)) (.int .u8 1) (.agg #[(.bool true), (.bool false), (.bool true), (.bool false)]) (GH.push H (.map [] 0))) fun H1 =>
  onH (gMapUpdate Tryd.prog 82 (.map (some H.n)) (.int .u8 2) (.agg #[(.bool false), (.bool false), (.bool true), (.bool false)]) H1) fun H2 =>
  onH (gMapUpdate Tryd.prog 82 (.map (some H.n)) (.int .u8 3) (.agg #[(.bool false), (.bool false), (.bool false), (.bool true)]) H2) fun H3 =>
  onV (gLoad Tryd.prog 80 (d 1) H3) fun v4 =>
  onH (gMapUpdate Tryd.prog 82 (.map (some H.n)) (.int .u8 4) v4 H3) fun H5 =>
  onV (gLoad Tryd.prog 80 (d 1) H5) fun v6 =>
  onH (gMapUpdate Tryd.prog 82 (.map (some H.n)) (.int .u8 5) v6 H5) fun H7 =>
  onV (gLoad Tryd.prog 80 (d 1) H7) fun v8 =>
  onH (gMapUpdate Tryd.prog 82 (.map (some H.n)) (.int .u8 6) v8 H7) fun H9 =>
  onH (gMapUpdate Tryd.prog 82 (.map (some H.n)) (.int .u8 7) (.agg #[(.bool false), (.bool true), (.bool false), (.bool false)]) H9) fun H10 =>
  onH (gMapUpdate Tryd.prog 82 (.map (some H.n)) (.int .u8 8) (.agg #[(.bool false), (.bool true), (.bool false), (.bool false)]) H10) fun H11 =>
  K' (FG 13 d [(0, (.map (some H.n))), (12, (.map (some H.n))), (11, (.agg #[(.bool false), (.bool true), (.bool false), (.bool false)])), (10, (.agg #[(.bool false), (.bool true), (.bool false), (.bool false)])), (9, v8), (8, v6), (7, v4), (6, (.agg #[(.bool false), (.bool false), (.bool false), (.bool true)])), (5, (.agg #[(.bool false), (.bool false), (.bool true), (.bool false)])), (4, (.agg #[(.bool true), (.bool false), (.bool true), (.bool false)])), (3, (.map (some H.n)))]) H11 := by kernel_rfl
noncomputable def f33_r2 (call : Handle) (k : Nat) (x1 : Value) (H : GH) : M (Value × GH) :=
  onH (gMapUpdate Tryd.prog 82 (.map (some H.n)) (.int .u8 1) (.agg #[(.bool true), (.bool false), (.bool true), (.bool false)]) (GH.push H (.map [] 0))) fun H1 =>
  onH (gMapUpdate Tryd.prog 82 (.map (some H.n)) (.int .u8 2) (.agg #[(.bool false), (.bool false), (.bool true), (.bool false)]) H1) fun H2 =>
  onH (gMapUpdate Tryd.prog 82 (.map (some H.n)) (.int .u8 3) (.agg #[(.bool false), (.bool false), (.bool false), (.bool true)]) H2) fun H3 =>
  onV (gLoad Tryd.prog 80 x1 H3) fun v4 =>
  onH (gMapUpdate Tryd.prog 82 (.map (some H.n)) (.int .u8 4) v4 H3) fun H5 =>
  onV (gLoad Tryd.prog 80 x1 H5) fun v6 =>
  onH (gMapUpdate Tryd.prog 82 (.map (some H.n)) (.int .u8 5) v6 H5) fun H7 =>
  onV (gLoad Tryd.prog 80 x1 H7) fun v8 =>
  onH (gMapUpdate Tryd.prog 82 (.map (some H.n)) (.int .u8 6) v8 H7) fun H9 =>
  onH (gMapUpdate Tryd.prog 82 (.map (some H.n)) (.int .u8 7) (.agg #[(.bool false), (.bool true), (.bool false), (.bool false)]) H9) fun H10 =>
  onH (gMapUpdate Tryd.prog 82 (.map (some H.n)) (.int .u8 8) (.agg #[(.bool false), (.bool true), (.bool false), (.bool false)]) H10) fun H11 =>
  some [((.map (some H.n)), H11)]
theorem f33_r2_eq (call : Handle) (k : Nat) : g33 call k [1,1,0] (FF 13 d) H (hSeq (g33 call k [1,1,1]) (hFin Tryd.prog Tryd.f33)) = f33_r2 call k (d 1) H := by
  unfold f33_r2
  rw [n33_5]
  rw [s33_2]
  refine onH_c fun H1 => ?_
  refine onH_c fun H2 => ?_
  refine onH_c fun H3 => ?_
  refine onV_c fun v4 => ?_
  refine onH_c fun H5 => ?_
  refine onV_c fun v6 => ?_
  refine onH_c fun H7 => ?_
  refine onV_c fun v8 => ?_
  refine onH_c fun H9 => ?_
  refine onH_c fun H10 => ?_
  refine onH_c fun H11 => ?_
  rw [hSeq_n]
  rw [n33_6]
  kernel_rfl
noncomputable def f33_sh (call : Handle) (k : Nat) (H : GH) : M (Value × GH) :=
  onH (gStore Tryd.prog 80 (.pointer (some ⟨H.n, 0, none⟩)) (.agg #[(.bool true), (.bool true), (.bool true), (.bool false)]) (GH.push H (.row [(.bool false), (.bool false), (.bool false), (.bool false)] 80 false))) fun H1 =>
  (f33_r2 call k (.pointer (some ⟨H.n, 0, none⟩)) H1)
theorem f33_run (call : Handle) (k : Nat) (H : GH) : g33 call k [] (FF 13 (fun _ => undef)) H (hFin Tryd.prog Tryd.f33) = f33_sh call k H := by
  unfold f33_sh
  rw [n33_0]
  rw [n33_1]
  rw [s33_0]
  rw [hSeq_n]
  rw [n33_2]
  rw [n33_3]
  rw [s33_1]
  refine onH_c fun H1 => ?_
  rw [hSeq_n]
  rw [n33_4]
  generalize e : (FG 13 (fun _ => undef) [(1, (.pointer (some ⟨H.n, 0, none⟩))), (2, (.agg #[(.bool true), (.bool true), (.bool true), (.bool false)])), (0, (.map none))]) = a
  rw [show a = (FF 13 (gf a)) from (FF_gf (by subst e; exact FG_len)).symm]
  exact (f33_r2_eq (d := gf a) call k).trans (by subst e; kernel_rfl)
theorem f33_eq (call : Handle) (k : Nat) (H : GH) : gFunc Tryd.prog call k Tryd.f33 [] H = f33_sh call k H :=
  Eq.trans (by kernel_rfl) (f33_run call k H)
end
noncomputable def g34 {β : Type} (call : Handle) (k : Nat) (p : List Nat) : GA → GH → Kont β → M β := gCode Tryd.prog call k (fAt Tryd.f34 p)
noncomputable def o34 {β : Type} (d : Nat) (call : Handle) (p : List Nat) (i : Nat) : GA → GH → (GA → GH → M β) → M β := gOps Tryd.prog d call (opsAt (fAt Tryd.f34 p)) i ((opsAt (fAt Tryd.f34 p)).drop i)
noncomputable def t34 {β : Type} (d : Nat) (call : Handle) (p : List Nat) (i n : Nat) : GA → GH → (GA → GH → M β) → M β := gOps Tryd.prog d call (opsAt (fAt Tryd.f34 p)) i (((opsAt (fAt Tryd.f34 p)).drop i).take n)
theorem o34_s {β : Type} {d : Nat} {call : Handle} {p : List Nat} {a : GA} {H : GH} {K : GA → GH → M β} (i n : Nat) : o34 d call p i a H K = t34 d call p i n a H fun a H => o34 d call p (i + n) a H K := gOps_split i n
section
variable {β : Type} {call : Handle} {k : Nat} {a : GA} {K : Kont β} {K' : GA → GH → M β}
variable {d : Nat → Value} {xg : Value}
variable {p0 : Value}
variable {v1 v2 v3 : Value}
variable {H : GH}
theorem n34_0 : g34 call k [] a H K = g34 call k [0] a H (hSeq (g34 call k [1]) K) := at_seq (by kernel_rfl)
theorem n34_1 : g34 call k [0] a H K = o34 0 call [0] 0 a H (K .normal) := at_region (by kernel_rfl)
theorem n34_2 : g34 call k [1] a H K = g34 call k [1,0] a H (hSeq (g34 call k [1,1]) K) := at_seq (by kernel_rfl)
theorem n34_3 : g34 call k [1,0] a H K = g34 call k [1,0,0] a H (hSeq (g34 call k [1,0,1]) K) := at_seq (by kernel_rfl)
theorem n34_4 : g34 call k [1,0,0] a H K = o34 0 call [1,0,0] 0 a H (K .normal) := at_region (by kernel_rfl)
theorem n34_5 : g34 call k [1,0,1] a H K = onBool (asB (GA.eval a (.tmp 15))) (g34 call k [1,0,1,0] a H K) (g34 call k [1,0,1,1] a H K) := at_cond (by kernel_rfl)
theorem n34_6 : g34 call k [1,0,1,0] a H K = g34 call k [1,0,1,0,0] a H (hSeq (g34 call k [1,0,1,0,1]) K) := at_seq (by kernel_rfl)
theorem n34_7 : g34 call k [1,0,1,0,0] a H K = o34 0 call [1,0,1,0,0] 0 a H (K .normal) := at_region (by kernel_rfl)
theorem n34_8 : g34 call k [1,0,1,0,1] a H K = K .ret a H := at_ret (by kernel_rfl)
theorem n34_9 : g34 call k [1,0,1,1] a H K = K .normal a H := at_skip (by kernel_rfl)
theorem n34_10 : g34 call k [1,1] a H K = g34 call k [1,1,0] a H (hSeq (g34 call k [1,1,1]) K) := at_seq (by kernel_rfl)
theorem n34_11 : g34 call k [1,1,0] a H K = o34 0 call [1,1,0] 0 a H (K .normal) := at_region (by kernel_rfl)
theorem n34_12 : g34 call k [1,1,1] a H K = K .ret a H := at_ret (by kernel_rfl)
theorem s34_0 : o34 0 call [0] 0 (FG 16 (fun _ => undef) [(0, p0)]) H K' =
  K' (FG 16 (fun _ => undef) [(2, (.int .i64 0)), (1, (.pointer (some ⟨H.n, 0, none⟩))), (0, p0)]) (GH.push H (.row (Value.cells p0).toList 46 false)) := by kernel_rfl
theorem s34_1 : t34 0 call [1,0,0] 0 4 (FF 16 d) H K' =
  onV (oFieldAddr Tryd.prog 46 (d 1) 0) fun v1 =>
  onV (gLoad Tryd.prog 44 v1 H) fun v2 =>
  onV ((oBin Tryd.prog .gtr 44 v2 (.int .u8 1)).filter closed) fun v3 =>
  onGrd true v3 (K' (FG 16 d [(6, v3), (5, v3), (4, v2), (3, v1)]) H) := by kernel_rfl
theorem s34_2 : o34 0 call [1,0,0] 4 (FG 16 d [(6, (.bool true))]) H K' =
  K' (FG 16 d [(15, (.bool true)), (14, undef), (13, undef), (12, undef), (11, (.bool true)), (10, (.bool true)), (9, undef), (8, undef), (7, undef), (6, (.bool true))]) H := by kernel_rfl
theorem s34_3 : o34 0 call [1,0,1,0,0] 0 (FG 16 d [(15, (.bool true)), (14, undef), (13, undef), (12, undef), (11, (.bool true)), (10, (.bool true)), (9, undef), (8, undef), (7, undef), (6, (.bool true))]) H K' =
  K' (FG 16 d [(2, (.int .i64 1)), (15, (.bool true)), (14, undef), (13, undef), (12, undef), (11, (.bool true)), (10, (.bool true)), (9, undef), (8, undef), (7, undef), (6, (.bool true))]) H := by kernel_rfl
theorem s34_4 : t34 0 call [1,0,0] 4 5 (FG 16 d [(6, (.bool false))]) H K' =
  onV (oFieldAddr Tryd.prog 46 (d 1) 1) fun v1 =>
  onV (gLoad Tryd.prog 3 v1 H) fun v2 =>
  onV ((oBin Tryd.prog .lss 3 v2 (.int .i64 1)).filter closed) fun v3 =>
  onGrd true v3 (K' (FG 16 d [(11, v3), (10, v3), (9, v3), (8, v2), (7, v1), (6, (.bool false))]) H) := by kernel_rfl
theorem s34_5 : o34 0 call [1,0,0] 9 (FG 16 d [(11, (.bool true))]) H K' =
  K' (FG 16 d [(15, (.bool true)), (14, undef), (13, undef), (12, undef), (11, (.bool true))]) H := by kernel_rfl
theorem s34_6 : o34 0 call [1,0,1,0,0] 0 (FG 16 d [(15, (.bool true)), (14, undef), (13, undef), (12, undef), (11, (.bool true))]) H K' =
  K' (FG 16 d [(2, (.int .i64 1)), (15, (.bool true)), (14, undef), (13, undef), (12, undef), (11, (.bool true))]) H := by kernel_rfl
theorem s34_7 : o34 0 call [1,0,0] 9 (FG 16 d [(11, (.bool false))]) H K' =
  onV (oFieldAddr Tryd.prog 46 (d 1) 1) fun v1 =>
  onV (gLoad Tryd.prog 3 v1 H) fun v2 =>
  onV ((oBin Tryd.prog .gtr 3 v2 (.int .i64 40)).filter closed) fun v3 =>
  K' (FG 16 d [(15, v3), (14, v3), (13, v2), (12, v1), (11, (.bool false))]) H := by kernel_rfl
theorem s34_8 : o34 0 call [1,0,1,0,0] 0 (FG 16 d [(15, v3), (14, v3), (13, v2), (12, v1), (11, (.bool false))]) H K' =
  K' (FG 16 d [(2, (.int .i64 1)), (15, v3), (14, v3), (13, v2), (12, v1), (11, (.bool false))]) H := by kernel_rfl
theorem s34_9 : o34 0 call [1,1,0] 0 (FG 16 d [(15, v3), (14, v3), (13, v2), (12, v1), (11, (.bool false))]) H K' =
  K' (FG 16 d [(2, (.int .i64 0)), (15, v3), (14, v3), (13, v2), (12, v1), (11, (.bool false))]) H := by kernel_rfl
noncomputable def f34_g1_9 (call : Handle) (k : Nat) (x11 : Value) (x1 : Value) (H : GH) : M (Value × GH) :=
 onBool (asB x11)
  (some [((.int .i64 1), H)])
  (onV (oFieldAddr Tryd.prog 46 x1 1) fun v1 =>
  onV (gLoad Tryd.prog 3 v1 H) fun v2 =>
  onV ((oBin Tryd.prog .gtr 3 v2 (.int .i64 40)).filter closed) fun v3 =>
  onBool (asB v3)
  (some [((.int .i64 1), H)])
  (some [((.int .i64 0), H)]))
theorem f34_g1_9_true (call : Handle) (k : Nat) : o34 0 call [1,0,0] 9 (FG 16 d [(11, (.bool true))]) H ((hSeq (g34 call k [1,0,1]) (hSeq (g34 call k [1,1]) (hFin Tryd.prog Tryd.f34))) .normal) =
  some [((.int .i64 1), H)] := by
  rw [s34_5]
  rw [hSeq_n]
  rw [n34_5]
  refine (onBool_tt (by kernel_rfl)).trans ?_
  rw [n34_6]
  rw [n34_7]
  rw [s34_6]
  rw [hSeq_n]
  rw [n34_8]
  rw [hSeq_r]
  kernel_rfl
theorem f34_g1_9_false (call : Handle) (k : Nat) : o34 0 call [1,0,0] 9 (FG 16 d [(11, (.bool false))]) H ((hSeq (g34 call k [1,0,1]) (hSeq (g34 call k [1,1]) (hFin Tryd.prog Tryd.f34))) .normal) =
  onV (oFieldAddr Tryd.prog 46 (d 1) 1) fun v1 =>
  onV (gLoad Tryd.prog 3 v1 H) fun v2 =>
  onV ((oBin Tryd.prog .gtr 3 v2 (.int .i64 40)).filter closed) fun v3 =>
  onBool (asB v3)
  (some [((.int .i64 1), H)])
  (some [((.int .i64 0), H)]) := by
  rw [s34_7]
  refine onV_c fun v1 => ?_
  refine onV_c fun v2 => ?_
  refine onV_c fun v3 => ?_
  rw [hSeq_n]
  rw [n34_5]
  refine onBool_cc (by kernel_rfl) ?_ ?_
  · rw [n34_6]
    rw [n34_7]
    rw [s34_8]
    rw [hSeq_n]
    rw [n34_8]
    rw [hSeq_r]
    kernel_rfl
  · rw [n34_9]
    rw [hSeq_n]
    rw [n34_10]
    rw [n34_11]
    rw [s34_9]
    rw [hSeq_n]
    rw [n34_12]
    kernel_rfl
theorem f34_g1_9_eq (call : Handle) (k : Nat) : onGrd true xg (o34 0 call [1,0,0] 9 (FG 16 d [(11, xg)]) H ((hSeq (g34 call k [1,0,1]) (hSeq (g34 call k [1,1]) (hFin Tryd.prog Tryd.f34))) .normal)) =
  f34_g1_9 call k xg (d 1) H := by
  cases xg with
  | bool b => cases b with
    | true => exact onGrd_b.trans (f34_g1_9_true call k)
    | false => exact onGrd_b.trans (f34_g1_9_false call k)
  | _ => kernel_rfl
noncomputable def f34_g1_4 (call : Handle) (k : Nat) (x6 : Value) (x1 : Value) (H : GH) : M (Value × GH) :=
 onBool (asB x6)
  (some [((.int .i64 1), H)])
  (onV (oFieldAddr Tryd.prog 46 x1 1) fun v1 =>
  onV (gLoad Tryd.prog 3 v1 H) fun v2 =>
  onV ((oBin Tryd.prog .lss 3 v2 (.int .i64 1)).filter closed) fun v3 =>
  (f34_g1_9 call k v3 x1 H))
theorem f34_g1_4_true (call : Handle) (k : Nat) : o34 0 call [1,0,0] 4 (FG 16 d [(6, (.bool true))]) H ((hSeq (g34 call k [1,0,1]) (hSeq (g34 call k [1,1]) (hFin Tryd.prog Tryd.f34))) .normal) =
  some [((.int .i64 1), H)] := by
  rw [s34_2]
  rw [hSeq_n]
  rw [n34_5]
  refine (onBool_tt (by kernel_rfl)).trans ?_
  rw [n34_6]
  rw [n34_7]
  rw [s34_3]
  rw [hSeq_n]
  rw [n34_8]
  rw [hSeq_r]
  kernel_rfl
theorem f34_g1_4_false (call : Handle) (k : Nat) : o34 0 call [1,0,0] 4 (FG 16 d [(6, (.bool false))]) H ((hSeq (g34 call k [1,0,1]) (hSeq (g34 call k [1,1]) (hFin Tryd.prog Tryd.f34))) .normal) =
  onV (oFieldAddr Tryd.prog 46 (d 1) 1) fun v1 =>
  onV (gLoad Tryd.prog 3 v1 H) fun v2 =>
  onV ((oBin Tryd.prog .lss 3 v2 (.int .i64 1)).filter closed) fun v3 =>
  (f34_g1_9 call k v3 (d 1) H) := by
  rw [o34_s 4 5, s34_4]
  refine onV_c fun v1 => ?_
  refine onV_c fun v2 => ?_
  refine onV_c fun v3 => ?_
  generalize e : (FG 16 d [(11, v3), (10, v3), (9, v3), (8, v2), (7, v1), (6, (.bool false))]) = a
  rw [show a = (FG 16 (gf a) [(11, v3)]) from (FG_eq (by subst e; exact FG_len) (FS_cons (by subst e; kernel_rfl) (FS_nil))).symm]
  exact (f34_g1_9_eq (d := gf a) call k).trans (by subst e; kernel_rfl)
theorem f34_g1_4_eq (call : Handle) (k : Nat) : onGrd true xg (o34 0 call [1,0,0] 4 (FG 16 d [(6, xg)]) H ((hSeq (g34 call k [1,0,1]) (hSeq (g34 call k [1,1]) (hFin Tryd.prog Tryd.f34))) .normal)) =
  f34_g1_4 call k xg (d 1) H := by
  cases xg with
  | bool b => cases b with
    | true => exact onGrd_b.trans (f34_g1_4_true call k)
    | false => exact onGrd_b.trans (f34_g1_4_false call k)
  | _ => kernel_rfl
noncomputable def f34_r1 (call : Handle) (k : Nat) (x1 : Value) (H : GH) : M (Value × GH) :=
  onV (oFieldAddr Tryd.prog 46 x1 0) fun v1 =>
  onV (gLoad Tryd.prog 44 v1 H) fun v2 =>
  onV ((oBin Tryd.prog .gtr 44 v2 (.int .u8 1)).filter closed) fun v3 =>
  (f34_g1_4 call k v3 x1 H)
theorem f34_r1_eq (call : Handle) (k : Nat) : g34 call k [1,0,0] (FF 16 d) H (hSeq (g34 call k [1,0,1]) (hSeq (g34 call k [1,1]) (hFin Tryd.prog Tryd.f34))) = f34_r1 call k (d 1) H := by
  unfold f34_r1
  rw [n34_4]
  rw [o34_s 0 4, s34_1]
  refine onV_c fun v1 => ?_
  refine onV_c fun v2 => ?_
  refine onV_c fun v3 => ?_
  generalize e : (FG 16 d [(6, v3), (5, v3), (4, v2), (3, v1)]) = a
  rw [show a = (FG 16 (gf a) [(6, v3)]) from (FG_eq (by subst e; exact FG_len) (FS_cons (by subst e; kernel_rfl) (FS_nil))).symm]
  exact (f34_g1_4_eq (d := gf a) call k).trans (by subst e; kernel_rfl)
noncomputable def f34_sh (call : Handle) (k : Nat) (p0 : Value) (H : GH) : M (Value × GH) :=
  (f34_r1 call k (.pointer (some ⟨H.n, 0, none⟩)) (GH.push H (.row (Value.cells p0).toList 46 false)))
theorem f34_run (call : Handle) (k : Nat) (p0 : Value) (H : GH) : g34 call k [] (FG 16 (fun _ => undef) [(0, p0)]) H (hFin Tryd.prog Tryd.f34) = f34_sh call k p0 H := by
  unfold f34_sh
  rw [n34_0]
  rw [n34_1]
  rw [s34_0]
  rw [hSeq_n]
  rw [n34_2]
  rw [n34_3]
  generalize e : (FG 16 (fun _ => undef) [(2, (.int .i64 0)), (1, (.pointer (some ⟨H.n, 0, none⟩))), (0, p0)]) = a
  rw [show a = (FF 16 (gf a)) from (FF_gf (by subst e; exact FG_len)).symm]
  exact (f34_r1_eq (d := gf a) call k).trans (by subst e; kernel_rfl)
theorem f34_eq (call : Handle) (k : Nat) (p0 : Value) (H : GH) : gFunc Tryd.prog call k Tryd.f34 [p0] H = f34_sh call k p0 H :=
  Eq.trans (by kernel_rfl) (f34_run call k p0 H)
end
noncomputable def g35 {β : Type} (call : Handle) (k : Nat) (p : List Nat) : GA → GH → Kont β → M β := gCode Tryd.prog call k (fAt Tryd.f35 p)
noncomputable def o35 {β : Type} (d : Nat) (call : Handle) (p : List Nat) (i : Nat) : GA → GH → (GA → GH → M β) → M β := gOps Tryd.prog d call (opsAt (fAt Tryd.f35 p)) i ((opsAt (fAt Tryd.f35 p)).drop i)
noncomputable def t35 {β : Type} (d : Nat) (call : Handle) (p : List Nat) (i n : Nat) : GA → GH → (GA → GH → M β) → M β := gOps Tryd.prog d call (opsAt (fAt Tryd.f35 p)) i (((opsAt (fAt Tryd.f35 p)).drop i).take n)
theorem o35_s {β : Type} {d : Nat} {call : Handle} {p : List Nat} {a : GA} {H : GH} {K : GA → GH → M β} (i n : Nat) : o35 d call p i a H K = t35 d call p i n a H fun a H => o35 d call p (i + n) a H K := gOps_split i n
section
variable {β : Type} {call : Handle} {k : Nat} {a : GA} {K : Kont β} {K' : GA → GH → M β}
variable {d : Nat → Value} {xg : Value}
variable {p0 p1 p2 : Value}
variable {v1 v2 v3 v4 v5 v7 : Value}
variable {H H6 : GH}
theorem n35_0 : g35 call k [] a H K = g35 call k [0] a H (hSeq (g35 call k [1]) K) := at_seq (by kernel_rfl)
theorem n35_1 : g35 call k [0] a H K = o35 0 call [0] 0 a H (K .normal) := at_region (by kernel_rfl)
theorem n35_2 : g35 call k [1] a H K = g35 call k [1,0] a H (hBlock 0 K) := at_block (by kernel_rfl)
theorem n35_3 : g35 call k [1,0] a H K = gLoop (g35 call k [1,0,0]) K k a H := at_loop (by kernel_rfl)
theorem n35_4 : g35 call k [1,0,0] a H K = g35 call k [1,0,0,0] a H (hSeq (g35 call k [1,0,0,1]) K) := at_seq (by kernel_rfl)
theorem n35_5 : g35 call k [1,0,0,0] a H K = g35 call k [1,0,0,0,0] a H (hSeq (g35 call k [1,0,0,0,1]) K) := at_seq (by kernel_rfl)
theorem n35_6 : g35 call k [1,0,0,0,0] a H K = o35 0 call [1,0,0,0,0] 0 a H (K .normal) := at_region (by kernel_rfl)
theorem n35_7 : g35 call k [1,0,0,0,1] a H K = onBool (asB (GA.eval a (.tmp 9))) (g35 call k [1,0,0,0,1,0] a H K) (g35 call k [1,0,0,0,1,1] a H K) := at_cond (by kernel_rfl)
theorem n35_8 : g35 call k [1,0,0,0,1,0] a H K = K .normal a H := at_skip (by kernel_rfl)
theorem n35_9 : g35 call k [1,0,0,1] a H K = g35 call k [1,0,0,1,0] a H (hSeq (g35 call k [1,0,0,1,1]) K) := at_seq (by kernel_rfl)
theorem n35_10 : g35 call k [1,0,0,1,0] a H K = g35 call k [1,0,0,1,0,0] a H (hBlock 1 K) := at_block (by kernel_rfl)
theorem n35_11 : g35 call k [1,0,0,1,0,0] a H K = g35 call k [1,0,0,1,0,0,0] a H (hSeq (g35 call k [1,0,0,1,0,0,1]) K) := at_seq (by kernel_rfl)
theorem n35_12 : g35 call k [1,0,0,1,0,0,0] a H K = o35 1 call [1,0,0,1,0,0,0] 0 a H (K .normal) := at_region (by kernel_rfl)
theorem n35_13 : g35 call k [1,0,0,1,0,0,1] a H K = g35 call k [1,0,0,1,0,0,1,0] a H (hSeq (g35 call k [1,0,0,1,0,0,1,1]) K) := at_seq (by kernel_rfl)
theorem n35_14 : g35 call k [1,0,0,0,1,1] a H K = K (.exit 0) a H := at_exit (by kernel_rfl)
theorem n35_15 : g35 call k [1,0,0,1,0,0,1,0] a H K = o35 0 call [1,0,0,1,0,0,1,0] 0 a H (K .normal) := at_region (by kernel_rfl)
theorem n35_16 : g35 call k [1,0,0,1,0,0,1,1] a H K = onBool (asB (GA.eval a (.tmp 30))) (g35 call k [1,0,0,1,0,0,1,1,0] a H K) (g35 call k [1,0,0,1,0,0,1,1,1] a H K) := at_cond (by kernel_rfl)
theorem n35_17 : g35 call k [1,0,0,1,0,0,1,1,0] a H K = K .ret a H := at_ret (by kernel_rfl)
theorem n35_18 : g35 call k [1,0,0,1,0,0,1,1,1] a H K = K .normal a H := at_skip (by kernel_rfl)
theorem n35_19 : g35 call k [1,0,0,1,1] a H K = o35 0 call [1,0,0,1,1] 0 a H (K .normal) := at_region (by kernel_rfl)
theorem s35_0 : o35 0 call [0] 0 (FG 31 (fun _ => undef) [(2, p2), (1, p1), (0, p0)]) H K' =
  K' (FG 31 (fun _ => undef) [(4, (.int .i64 0)), (2, p2), (1, p1), (0, p0)]) H := by kernel_rfl
theorem s35_1 : o35 0 call [1,0,0,0,0] 0 (FF 31 d) H K' =
  onV (gLoad Tryd.prog 24 (d 1) H) fun v1 =>
  onV (oLen Tryd.prog 24 v1) fun v2 =>
  onV ((oBin Tryd.prog .lss 3 (d 4) v2).filter closed) fun v3 =>
  K' (FG 31 d [(9, v3), (8, v2), (7, v1), (6, (d 4))]) H := by kernel_rfl
theorem s35_2 : o35 1 call [1,0,0,1,0,0,0] 0 (FG 31 d [(9, v3), (8, v2), (7, v1), (6, (d 4))]) H K' =
  onV (gLoad Tryd.prog 3 (d 2) H) fun v4 =>
  onV (gLoad Tryd.prog 24 (d 1) H) fun v5 =>
  onV (oSlice Tryd.prog 24 v5 (some (d 4)) none none) fun v6 =>
  onV (oLen Tryd.prog 24 v6) fun v7 =>
  onV ((oMinMax Tryd.prog false [v4, v7]).filter closed) fun v8 =>
  K' (FG 31 d [(5, v8), (18, v8), (17, v7), (16, v6), (15, (d 4)), (14, v5), (13, v4), (9, v3), (8, v2), (7, v1), (6, (d 4))]) H := by kernel_rfl
theorem s35_3 : o35 0 call [1,0,0,1,0,0,1,0] 0 (FF 31 d) H K' =
  onV (gLoad Tryd.prog 24 (d 1) H) fun v1 =>
  onV ((oBin Tryd.prog .add 3 (d 4) (d 5)).filter closed) fun v2 =>
  onV ((oBin Tryd.prog .add 3 (d 4) (d 5)).filter closed) fun v3 =>
  onV (oSlice Tryd.prog 24 v1 (some (d 4)) (some v2) (some v3)) fun v4 =>
  onCall 0 call (d 0) [v4] H fun v5 H6 =>
  onV ((oUn Tryd.prog .not v5).filter closed) fun v7 =>
  K' (FG 31 d [(30, v7), (29, v5), (28, v4), (27, v3), (26, (d 5)), (25, (d 4)), (24, v2), (23, (d 5)), (22, (d 4)), (21, (d 4)), (20, v1), (19, (d 0))]) H6 := by kernel_rfl
theorem s35_4 : o35 0 call [1,0,0,1,1] 0 (FG 31 d [(30, v7), (29, v5), (28, v4), (27, v3), (26, (d 5)), (25, (d 4)), (24, v2), (23, (d 5)), (22, (d 4)), (21, (d 4)), (20, v1), (19, (d 0))]) H6 K' =
  onV (gLoad Tryd.prog 3 (d 2) H6) fun v8 =>
  onV ((oBin Tryd.prog .add 3 (d 4) v8).filter closed) fun v9 =>
  K' (FG 31 d [(4, v9), (12, v9), (11, v8), (10, (d 4)), (30, v7), (29, v5), (28, v4), (27, v3), (26, (d 5)), (25, (d 4)), (24, v2), (23, (d 5)), (22, (d 4)), (21, (d 4)), (20, v1), (19, (d 0))]) H6 := by kernel_rfl
def f35_l1_P (ag : AG) (sg : Sg4) : Prop := ∀ (d : Nat → Value) (H : GH), ag (FF 31 d) H = sg (d 0) (d 1) (d 2) (d 4) H
theorem f35_l1_at {ag : AG} {sg : Sg4} (h : f35_l1_P ag sg) : ag (FF 31 d) H = sg (d 0) (d 1) (d 2) (d 4) H := h d H
noncomputable def f35_r4 (call : Handle) (k : Nat) (sg_l1 : Sg4) (x0 x1 x2 x4 x5 : Value) (H : GH) : M (Value × GH) :=
  onV (gLoad Tryd.prog 24 x1 H) fun v1 =>
  onV ((oBin Tryd.prog .add 3 x4 x5).filter closed) fun v2 =>
  onV ((oBin Tryd.prog .add 3 x4 x5).filter closed) fun v3 =>
  onV (oSlice Tryd.prog 24 v1 (some x4) (some v2) (some v3)) fun v4 =>
  onCall 0 call x0 [v4] H fun v5 H6 =>
  onV ((oUn Tryd.prog .not v5).filter closed) fun v7 =>
  onBool (asB v7)
  (some [((.tuple #[]), H6)])
  (onV (gLoad Tryd.prog 3 x2 H6) fun v8 =>
  onV ((oBin Tryd.prog .add 3 x4 v8).filter closed) fun v9 =>
  (sg_l1 x0 x1 x2 v9 H6))
theorem f35_r4_eq (call : Handle) (k : Nat) (ag_l1 : AG) (sg_l1 : Sg4) (h_l1 : f35_l1_P ag_l1 sg_l1) : g35 call k [1,0,0,1,0,0,1,0] (FF 31 d) H (hSeq (g35 call k [1,0,0,1,0,0,1,1]) (hBlock 1 (hSeq (g35 call k [1,0,0,1,1]) (hLoop ag_l1 (hBlock 0 (hFin Tryd.prog Tryd.f35)))))) = f35_r4 call k sg_l1 (d 0) (d 1) (d 2) (d 4) (d 5) H := by
  unfold f35_r4
  rw [n35_15]
  rw [s35_3]
  refine onV_c fun v1 => ?_
  refine onV_c fun v2 => ?_
  refine onV_c fun v3 => ?_
  refine onV_c fun v4 => ?_
  refine onCall_c fun v5 H6 => ?_
  refine onV_c fun v7 => ?_
  rw [hSeq_n]
  rw [n35_16]
  refine onBool_cc (by kernel_rfl) ?_ ?_
  · rw [n35_17]
    rw [hBlock_r, hSeq_r, hLoop_r, hBlock_r]
    kernel_rfl
  · rw [n35_18]
    rw [hBlock_n]
    rw [hSeq_n]
    rw [n35_19]
    rw [s35_4]
    refine onV_c fun v8 => ?_
    refine onV_c fun v9 => ?_
    rw [hLoop_n]
    generalize e : (FG 31 d [(4, v9), (12, v9), (11, v8), (10, (d 4)), (30, v7), (29, v5), (28, v4), (27, v3), (26, (d 5)), (25, (d 4)), (24, v2), (23, (d 5)), (22, (d 4)), (21, (d 4)), (20, v1), (19, (d 0))]) = a
    rw [show a = (FF 31 (gf a)) from (FF_gf (by subst e; exact FG_len)).symm]
    exact (f35_l1_at (d := gf a) h_l1).trans (by subst e; kernel_rfl)
noncomputable def f35_l1b (call : Handle) (k : Nat) (sg_l1 : Sg4) (x0 x1 x2 x4 : Value) (H : GH) : M (Value × GH) :=
  onV (gLoad Tryd.prog 24 x1 H) fun v1 =>
  onV (oLen Tryd.prog 24 v1) fun v2 =>
  onV ((oBin Tryd.prog .lss 3 x4 v2).filter closed) fun v3 =>
  onBool (asB v3)
  (onV (gLoad Tryd.prog 3 x2 H) fun v4 =>
  onV (gLoad Tryd.prog 24 x1 H) fun v5 =>
  onV (oSlice Tryd.prog 24 v5 (some x4) none none) fun v6 =>
  onV (oLen Tryd.prog 24 v6) fun v7 =>
  onV ((oMinMax Tryd.prog false [v4, v7]).filter closed) fun v8 =>
  (f35_r4 call k (sg_l1) x0 x1 x2 x4 v8 H))
  (some [((.tuple #[]), H)])
theorem f35_l1b_eq (call : Handle) (k : Nat) (ag_l1 : AG) (sg_l1 : Sg4) (h_l1 : f35_l1_P ag_l1 sg_l1) : g35 call k [1,0,0] (FF 31 d) H (hLoop ag_l1 (hBlock 0 (hFin Tryd.prog Tryd.f35))) = f35_l1b call k sg_l1 (d 0) (d 1) (d 2) (d 4) H := by
  unfold f35_l1b
  rw [n35_4]
  rw [n35_5]
  rw [n35_6]
  rw [s35_1]
  refine onV_c fun v1 => ?_
  refine onV_c fun v2 => ?_
  refine onV_c fun v3 => ?_
  rw [hSeq_n]
  rw [n35_7]
  refine onBool_cc (by kernel_rfl) ?_ ?_
  · rw [n35_8]
    rw [hSeq_n]
    rw [n35_9]
    rw [n35_10]
    rw [n35_11]
    rw [n35_12]
    rw [s35_2]
    refine onV_c fun v4 => ?_
    refine onV_c fun v5 => ?_
    refine onV_c fun v6 => ?_
    refine onV_c fun v7 => ?_
    refine onV_c fun v8 => ?_
    rw [hSeq_n]
    rw [n35_13]
    generalize e : (FG 31 d [(5, v8), (18, v8), (17, v7), (16, v6), (15, (d 4)), (14, v5), (13, v4), (9, v3), (8, v2), (7, v1), (6, (d 4))]) = a
    rw [show a = (FF 31 (gf a)) from (FF_gf (by subst e; exact FG_len)).symm]
    exact (f35_r4_eq (d := gf a) call k ag_l1 sg_l1 h_l1).trans (by subst e; kernel_rfl)
  · rw [n35_14]
    rw [hSeq_e, hLoop_e, hBlock_hit]
    kernel_rfl
noncomputable def f35_l1 (call : Handle) (k : Nat) : Nat → Value → Value → Value → Value → GH → M (Value × GH)
  | 0, _, _, _, _, _ => none
  | r + 1, x0, x1, x2, x4, H => f35_l1b call k (f35_l1 call k r) x0 x1 x2 x4 H
theorem f35_l1_eq (call : Handle) (k : Nat) : ∀ (r : Nat), f35_l1_P (gLoop (g35 call k [1,0,0]) (hBlock 0 (hFin Tryd.prog Tryd.f35)) r) (f35_l1 call k r) := by
  intro r
  induction r with
  | zero => unfold f35_l1_P; intros; rfl
  | succ r ih => unfold f35_l1_P; intros; exact f35_l1b_eq call k _ _ ih
noncomputable def f35_sh (call : Handle) (k : Nat) (p0 p1 p2 : Value) (H : GH) : M (Value × GH) :=
  (f35_l1 call k k p0 p1 p2 (.int .i64 0) H)
theorem f35_run (call : Handle) (k : Nat) (p0 p1 p2 : Value) (H : GH) : g35 call k [] (FG 31 (fun _ => undef) [(2, p2), (1, p1), (0, p0)]) H (hFin Tryd.prog Tryd.f35) = f35_sh call k p0 p1 p2 H := by
  unfold f35_sh
  rw [n35_0]
  rw [n35_1]
  rw [s35_0]
  rw [hSeq_n]
  rw [n35_2]
  rw [n35_3]
  generalize e : (FG 31 (fun _ => undef) [(4, (.int .i64 0)), (2, p2), (1, p1), (0, p0)]) = a
  rw [show a = (FF 31 (gf a)) from (FF_gf (by subst e; exact FG_len)).symm]
  exact (f35_l1_at (d := gf a) (f35_l1_eq call k k)).trans (by subst e; kernel_rfl)
theorem f35_eq (call : Handle) (k : Nat) (p0 p1 p2 : Value) (H : GH) : gFunc Tryd.prog call k Tryd.f35 [p0, p1, p2] H = f35_sh call k p0 p1 p2 H :=
  Eq.trans (by kernel_rfl) (f35_run call k p0 p1 p2 H)
end
end Go.Proofs.YtdhadannleldiaaDoor
