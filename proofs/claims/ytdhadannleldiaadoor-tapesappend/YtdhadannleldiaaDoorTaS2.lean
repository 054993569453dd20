/- PRINTED by sh.py: shallow forms of functions of the program, each proved equal to what the ghost machine makes of its code. -/
import Derived.Test.YtdhadannleldiaaDoorGkTop
import Derived.Test.YtdhadannleldiaaDoorProg
namespace Go.Proofs.YtdhadannleldiaaDoor
open Go.Gh
set_option linter.unusedVariables false
set_option linter.unusedSimpArgs false
set_option maxRecDepth 100000
noncomputable def g11 {β : Type} (call : Handle) (k : Nat) (p : List Nat) : GA → GH → Kont β → M β := gCode Tryd.prog call k (fAt Tryd.f11 p)
noncomputable def o11 {β : Type} (d : Nat) (call : Handle) (p : List Nat) (i : Nat) : GA → GH → (GA → GH → M β) → M β := gOps Tryd.prog d call (opsAt (fAt Tryd.f11 p)) i ((opsAt (fAt Tryd.f11 p)).drop i)
noncomputable def t11 {β : Type} (d : Nat) (call : Handle) (p : List Nat) (i n : Nat) : GA → GH → (GA → GH → M β) → M β := gOps Tryd.prog d call (opsAt (fAt Tryd.f11 p)) i (((opsAt (fAt Tryd.f11 p)).drop i).take n)
theorem o11_s {β : Type} {d : Nat} {call : Handle} {p : List Nat} {a : GA} {H : GH} {K : GA → GH → M β} (i n : Nat) : o11 d call p i a H K = t11 d call p i n a H fun a H => o11 d call p (i + n) a H K := gOps_split i n
section
variable {β : Type} {call : Handle} {k : Nat} {a : GA} {K : Kont β} {K' : GA → GH → M β}
variable {d : Nat → Value} {xg : Value}
variable {p0 : Value}
variable {v1 v3 v4 v6 v7 v9 v10 : Value}
variable {H H2 H5 H8 : GH}
theorem n11_0 : g11 call k [] a H K = g11 call k [0] a H (hSeq (g11 call k [1]) K) := at_seq (by kernel_rfl)
theorem n11_1 : g11 call k [0] a H K = o11 0 call [0] 0 a H (K .normal) := at_region (by kernel_rfl)
theorem n11_2 : g11 call k [1] a H K = g11 call k [1,0] a H (hSeq (g11 call k [1,1]) K) := at_seq (by kernel_rfl)
theorem n11_3 : g11 call k [1,0] a H K = g11 call k [1,0,0] a H (hSeq (g11 call k [1,0,1]) K) := at_seq (by kernel_rfl)
theorem n11_4 : g11 call k [1,0,0] a H K = o11 0 call [1,0,0] 0 a H (K .normal) := at_region (by kernel_rfl)
theorem n11_5 : g11 call k [1,0,1] a H K = g11 call k [1,0,1,0] a H (hSeq (g11 call k [1,0,1,1]) K) := at_seq (by kernel_rfl)
theorem n11_6 : g11 call k [1,0,1,0] a H K = o11 0 call [1,0,1,0] 0 a H (K .normal) := at_region (by kernel_rfl)
theorem n11_7 : g11 call k [1,0,1,1] a H K = onBool (asB (GA.eval a (.tmp 13))) (g11 call k [1,0,1,1,0] a H K) (g11 call k [1,0,1,1,1] a H K) := at_cond (by kernel_rfl)
theorem n11_8 : g11 call k [1,0,1,1,0] a H K = g11 call k [1,0,1,1,0,0] a H (hSeq (g11 call k [1,0,1,1,0,1]) K) := at_seq (by kernel_rfl)
theorem n11_9 : g11 call k [1,0,1,1,0,0] a H K = o11 0 call [1,0,1,1,0,0] 0 a H (K .normal) := at_region (by kernel_rfl)
theorem n11_10 : g11 call k [1,0,1,1,0,1] a H K = K .ret a H := at_ret (by kernel_rfl)
theorem n11_11 : g11 call k [1,0,1,1,1] a H K = K .normal a H := at_skip (by kernel_rfl)
theorem n11_12 : g11 call k [1,1] a H K = g11 call k [1,1,0] a H (hSeq (g11 call k [1,1,1]) K) := at_seq (by kernel_rfl)
theorem n11_13 : g11 call k [1,1,0] a H K = o11 0 call [1,1,0] 0 a H (K .normal) := at_region (by kernel_rfl)
theorem n11_14 : g11 call k [1,1,1] a H K = g11 call k [1,1,1,0] a H (hSeq (g11 call k [1,1,1,1]) K) := at_seq (by kernel_rfl)
theorem n11_15 : g11 call k [1,1,1,0] a H K = g11 call k [1,1,1,0,0] a H (hSeq (g11 call k [1,1,1,0,1]) K) := at_seq (by kernel_rfl)
theorem n11_16 : g11 call k [1,1,1,0,0] a H K = o11 0 call [1,1,1,0,0] 0 a H (K .normal) := at_region (by kernel_rfl)
theorem n11_17 : g11 call k [1,1,1,0,1] a H K = onBool (asB (GA.eval a (.tmp 19))) (g11 call k [1,1,1,0,1,0] a H K) (g11 call k [1,1,1,0,1,1] a H K) := at_cond (by kernel_rfl)
theorem n11_18 : g11 call k [1,1,1,0,1,0] a H K = o11 0 call [1,1,1,0,1,0] 0 a H (K .normal) := at_region (by kernel_rfl)
theorem n11_19 : g11 call k [1,1,1,0,1,1] a H K = K .normal a H := at_skip (by kernel_rfl)
theorem n11_20 : g11 call k [1,1,1,1] a H K = g11 call k [1,1,1,1,0] a H (hSeq (g11 call k [1,1,1,1,1]) K) := at_seq (by kernel_rfl)
theorem n11_21 : g11 call k [1,1,1,1,0] a H K = o11 0 call [1,1,1,1,0] 0 a H (K .normal) := at_region (by kernel_rfl)
theorem n11_22 : g11 call k [1,1,1,1,1] a H K = K .ret a H := at_ret (by kernel_rfl)
theorem s11_0 : o11 0 call [0] 0 (FG 26 (fun _ => undef) [(0, p0)]) H K' =
  K' (FG 26 (fun _ => undef) [(3, (.int .i64 0)), (2, (.slice none 0 0)), (0, p0)]) H := by kernel_rfl
theorem s11_1 : o11 0 call [1,0,0] 0 (FG 26 (fun _ => undef) [(3, (.int .i64 0)), (2, (.slice none 0 0)), (0, p0)]) H K' =
  onCall 0 call (.func (.func 16) #[] #[]) [p0] H fun v1 H2 =>
  onV (oExtract v1 0) fun v3 =>
  onV (oExtract v1 1) fun v4 =>
  onH (gStore Tryd.prog 55 (.pointer (some ⟨H2.n, 0, none⟩)) v3 (GH.push H2 (.row [(.slice none 0 0), (.bool false), (.bool false), (.int .i64 0)] 55 false))) fun H5 =>
  K' (FG 26 (fun _ => undef) [(5, v4), (4, (.pointer (some ⟨H2.n, 0, none⟩))), (11, v4), (10, v3), (7, v1), (9, v1), (8, p0), (3, (.int .i64 0)), (2, (.slice none 0 0)), (0, p0)]) H5 := by kernel_rfl
theorem s11_2 : o11 0 call [1,0,1,0] 0 (FG 26 (fun _ => undef) [(5, v4), (4, (.pointer (some ⟨H2.n, 0, none⟩))), (11, v4), (10, v3), (7, v1), (9, v1), (8, p0), (3, (.int .i64 0)), (2, (.slice none 0 0)), (0, p0)]) H5 K' =
  onV ((oBin Tryd.prog .neq 28 v4 (.int .i64 0)).filter closed) fun v6 =>
  K' (FG 26 (fun _ => undef) [(13, v6), (12, v4), (5, v4), (4, (.pointer (some ⟨H2.n, 0, none⟩))), (11, v4), (10, v3), (7, v1), (9, v1), (8, p0), (3, (.int .i64 0)), (2, (.slice none 0 0)), (0, p0)]) H5 := by kernel_rfl
theorem s11_3 : o11 0 call [1,0,1,1,0,0] 0 (FG 26 (fun _ => undef) [(13, v6), (12, v4), (5, v4), (4, (.pointer (some ⟨H2.n, 0, none⟩))), (11, v4), (10, v3), (7, v1), (9, v1), (8, p0), (3, (.int .i64 0)), (2, (.slice none 0 0)), (0, p0)]) H5 K' =
  K' (FG 26 (fun _ => undef) [(3, v4), (2, (.slice none 0 0)), (14, v4), (13, v6), (12, v4), (5, v4), (4, (.pointer (some ⟨H2.n, 0, none⟩))), (11, v4), (10, v3), (7, v1), (9, v1), (8, p0), (3, (.int .i64 0)), (2, (.slice none 0 0)), (0, p0)]) H5 := by kernel_rfl
theorem s11_4 : o11 0 call [1,1,0] 0 (FG 26 (fun _ => undef) [(13, v6), (12, v4), (5, v4), (4, (.pointer (some ⟨H2.n, 0, none⟩))), (11, v4), (10, v3), (7, v1), (9, v1), (8, p0), (3, (.int .i64 0)), (2, (.slice none 0 0)), (0, p0)]) H5 K' =
  onCall 0 call (.func (.func 18) #[] #[]) [p0] H5 fun v7 H8 =>
  K' (FG 26 (fun _ => undef) [(6, v7), (16, v7), (15, p0), (13, v6), (12, v4), (5, v4), (4, (.pointer (some ⟨H2.n, 0, none⟩))), (11, v4), (10, v3), (7, v1), (9, v1), (8, p0), (3, (.int .i64 0)), (2, (.slice none 0 0)), (0, p0)]) H8 := by kernel_rfl
theorem s11_5 : o11 0 call [1,1,1,0,0] 0 (FG 26 (fun _ => undef) [(6, v7), (16, v7), (15, p0), (13, v6), (12, v4), (5, v4), (4, (.pointer (some ⟨H2.n, 0, none⟩))), (11, v4), (10, v3), (7, v1), (9, v1), (8, p0), (3, (.int .i64 0)), (2, (.slice none 0 0)), (0, p0)]) H8 K' =
  onV (oLen Tryd.prog 24 p0) fun v9 =>
  onV ((oBin Tryd.prog .eql 3 v9 (.int .i64 0)).filter closed) fun v10 =>
  K' (FG 26 (fun _ => undef) [(19, v10), (18, v9), (17, p0), (6, v7), (16, v7), (15, p0), (13, v6), (12, v4), (5, v4), (4, (.pointer (some ⟨H2.n, 0, none⟩))), (11, v4), (10, v3), (7, v1), (9, v1), (8, p0), (3, (.int .i64 0)), (2, (.slice none 0 0)), (0, p0)]) H8 := by kernel_rfl
theorem s11_6 : o11 0 call [1,1,1,0,1,0] 0 (FG 26 (fun _ => undef) [(19, v10), (18, v9), (17, p0), (6, v7), (16, v7), (15, p0), (13, v6), (12, v4), (5, v4), (4, (.pointer (some ⟨H2.n, 0, none⟩))), (11, v4), (10, v3), (7, v1), (9, v1), (8, p0), (3, (.int .i64 0)), (2, (.slice none 0 0)), (0, p0)]) H8 K' =
  onV (oSlice Tryd.prog 60 (.pointer (some ⟨0, 0, none⟩)) none none none) fun v11 =>
  onCall 0 call (.func (.func 18) #[] #[]) [v11] H8 fun v12 H13 =>
  K' (FG 26 (fun _ => undef) [(6, v12), (21, v12), (20, v11), (19, v10), (18, v9), (17, p0), (6, v7), (16, v7), (15, p0), (13, v6), (12, v4), (5, v4), (4, (.pointer (some ⟨H2.n, 0, none⟩))), (11, v4), (10, v3), (7, v1), (9, v1), (8, p0), (3, (.int .i64 0)), (2, (.slice none 0 0)), (0, p0)]) H13 := by kernel_rfl
theorem s11_7 : o11 0 call [1,1,1,1,0] 0 (FF 26 d) H K' =
  onCall 0 call (.func (.func 20) #[] #[]) [(.slice none 0 0)] H fun v1 H2 =>
  onVH (gAppend Tryd.prog 24 24 (d 6) v1 H2) fun v3 H4 =>
  onCall 0 call (.func (.func 21) #[] #[]) [v3] H4 fun v5 H6 =>
  K' (FG 26 d [(3, (.int .i64 0)), (2, v5), (25, v5), (24, v3), (23, v1), (22, (d 6))]) H6 := by kernel_rfl
noncomputable def f11_r7 (call : Handle) (k : Nat) (x6 : Value) (H : GH) : M (Value × GH) :=
  onCall 0 call (.func (.func 20) #[] #[]) [(.slice none 0 0)] H fun v1 H2 =>
  onVH (gAppend Tryd.prog 24 24 x6 v1 H2) fun v3 H4 =>
  onCall 0 call (.func (.func 21) #[] #[]) [v3] H4 fun v5 H6 =>
  some [((.tuple #[v5, (.int .i64 0)]), H6)]
theorem f11_r7_eq (call : Handle) (k : Nat) : g11 call k [1,1,1,1] (FF 26 d) H (hFin Tryd.prog Tryd.f11) = f11_r7 call k (d 6) H := by
  unfold f11_r7
  rw [n11_20]
  rw [n11_21]
  rw [s11_7]
  refine onCall_c fun v1 H2 => ?_
  refine onVH_c fun v3 H4 => ?_
  refine onCall_c fun v5 H6 => ?_
  rw [hSeq_n]
  rw [n11_22]
  kernel_rfl
noncomputable def f11_sh (call : Handle) (k : Nat) (p0 : Value) (H : GH) : M (Value × GH) :=
  onCall 0 call (.func (.func 16) #[] #[]) [p0] H fun v1 H2 =>
  onV (oExtract v1 0) fun v3 =>
  onV (oExtract v1 1) fun v4 =>
  onH (gStore Tryd.prog 55 (.pointer (some ⟨H2.n, 0, none⟩)) v3 (GH.push H2 (.row [(.slice none 0 0), (.bool false), (.bool false), (.int .i64 0)] 55 false))) fun H5 =>
  onV ((oBin Tryd.prog .neq 28 v4 (.int .i64 0)).filter closed) fun v6 =>
  onBool (asB v6)
  (some [((.tuple #[(.slice none 0 0), v4]), H5)])
  (onCall 0 call (.func (.func 18) #[] #[]) [p0] H5 fun v7 H8 =>
  onV (oLen Tryd.prog 24 p0) fun v9 =>
  onV ((oBin Tryd.prog .eql 3 v9 (.int .i64 0)).filter closed) fun v10 =>
  onBool (asB v10)
  (onV (oSlice Tryd.prog 60 (.pointer (some ⟨0, 0, none⟩)) none none none) fun v11 =>
  onCall 0 call (.func (.func 18) #[] #[]) [v11] H8 fun v12 H13 =>
  (f11_r7 call k v12 H13))
  ((f11_r7 call k v7 H8)))
theorem f11_run (call : Handle) (k : Nat) (p0 : Value) (H : GH) : g11 call k [] (FG 26 (fun _ => undef) [(0, p0)]) H (hFin Tryd.prog Tryd.f11) = f11_sh call k p0 H := by
  unfold f11_sh
  rw [n11_0]
  rw [n11_1]
  rw [s11_0]
  rw [hSeq_n]
  rw [n11_2]
  rw [n11_3]
  rw [n11_4]
  rw [s11_1]
  refine onCall_c fun v1 H2 => ?_
  refine onV_c fun v3 => ?_
  refine onV_c fun v4 => ?_
  refine onH_c fun H5 => ?_
  rw [hSeq_n]
  rw [n11_5]
  rw [n11_6]
  rw [s11_2]
  refine onV_c fun v6 => ?_
  rw [hSeq_n]
  rw [n11_7]
  refine onBool_cc (by kernel_rfl) ?_ ?_
  · rw [n11_8]
    rw [n11_9]
    rw [s11_3]
    rw [hSeq_n]
    rw [n11_10]
    rw [hSeq_r]
    kernel_rfl
  · rw [n11_11]
    rw [hSeq_n]
    rw [n11_12]
    rw [n11_13]
    rw [s11_4]
    refine onCall_c fun v7 H8 => ?_
    rw [hSeq_n]
    rw [n11_14]
    rw [n11_15]
    rw [n11_16]
    rw [s11_5]
    refine onV_c fun v9 => ?_
    refine onV_c fun v10 => ?_
    rw [hSeq_n]
    rw [n11_17]
    refine onBool_cc (by kernel_rfl) ?_ ?_
    · rw [n11_18]
      rw [s11_6]
      refine onV_c fun v11 => ?_
      refine onCall_c fun v12 H13 => ?_
      rw [hSeq_n]
      generalize e : (FG 26 (fun _ => undef) [(6, v12), (21, v12), (20, v11), (19, v10), (18, v9), (17, p0), (6, v7), (16, v7), (15, p0), (13, v6), (12, v4), (5, v4), (4, (.pointer (some ⟨H2.n, 0, none⟩))), (11, v4), (10, v3), (7, v1), (9, v1), (8, p0), (3, (.int .i64 0)), (2, (.slice none 0 0)), (0, p0)]) = a
      rw [show a = (FF 26 (gf a)) from (FF_gf (by subst e; exact FG_len)).symm]
      exact (f11_r7_eq (d := gf a) call k).trans (by subst e; kernel_rfl)
    · rw [n11_19]
      rw [hSeq_n]
      generalize e : (FG 26 (fun _ => undef) [(19, v10), (18, v9), (17, p0), (6, v7), (16, v7), (15, p0), (13, v6), (12, v4), (5, v4), (4, (.pointer (some ⟨H2.n, 0, none⟩))), (11, v4), (10, v3), (7, v1), (9, v1), (8, p0), (3, (.int .i64 0)), (2, (.slice none 0 0)), (0, p0)]) = a
      rw [show a = (FF 26 (gf a)) from (FF_gf (by subst e; exact FG_len)).symm]
      exact (f11_r7_eq (d := gf a) call k).trans (by subst e; kernel_rfl)
theorem f11_eq (call : Handle) (k : Nat) (p0 : Value) (H : GH) : gFunc Tryd.prog call k Tryd.f11 [p0] H = f11_sh call k p0 H :=
  Eq.trans (by kernel_rfl) (f11_run call k p0 H)
end
noncomputable def g12 {β : Type} (call : Handle) (k : Nat) (p : List Nat) : GA → GH → Kont β → M β := gCode Tryd.prog call k (fAt Tryd.f12 p)
noncomputable def o12 {β : Type} (d : Nat) (call : Handle) (p : List Nat) (i : Nat) : GA → GH → (GA → GH → M β) → M β := gOps Tryd.prog d call (opsAt (fAt Tryd.f12 p)) i ((opsAt (fAt Tryd.f12 p)).drop i)
noncomputable def t12 {β : Type} (d : Nat) (call : Handle) (p : List Nat) (i n : Nat) : GA → GH → (GA → GH → M β) → M β := gOps Tryd.prog d call (opsAt (fAt Tryd.f12 p)) i (((opsAt (fAt Tryd.f12 p)).drop i).take n)
theorem o12_s {β : Type} {d : Nat} {call : Handle} {p : List Nat} {a : GA} {H : GH} {K : GA → GH → M β} (i n : Nat) : o12 d call p i a H K = t12 d call p i n a H fun a H => o12 d call p (i + n) a H K := gOps_split i n
section
variable {β : Type} {call : Handle} {k : Nat} {a : GA} {K : Kont β} {K' : GA → GH → M β}
variable {d : Nat → Value} {xg : Value}
variable {p0 : Value}
variable {v1 v2 v3 v4 v5 v6 : Value}
variable {H : GH}
theorem n12_0 : g12 call k [] a H K = g12 call k [0] a H (hSeq (g12 call k [1]) K) := at_seq (by kernel_rfl)
theorem n12_1 : g12 call k [0] a H K = o12 0 call [0] 0 a H (K .normal) := at_region (by kernel_rfl)
theorem n12_2 : g12 call k [1] a H K = g12 call k [1,0] a H (hSeq (g12 call k [1,1]) K) := at_seq (by kernel_rfl)
theorem n12_3 : g12 call k [1,0] a H K = o12 0 call [1,0] 0 a H (K .normal) := at_region (by kernel_rfl)
theorem n12_4 : g12 call k [1,1] a H K = g12 call k [1,1,0] a H (hSeq (g12 call k [1,1,1]) K) := at_seq (by kernel_rfl)
theorem n12_5 : g12 call k [1,1,0] a H K = g12 call k [1,1,0,0] a H (hSeq (g12 call k [1,1,0,1]) K) := at_seq (by kernel_rfl)
theorem n12_6 : g12 call k [1,1,0,0] a H K = o12 0 call [1,1,0,0] 0 a H (K .normal) := at_region (by kernel_rfl)
theorem n12_7 : g12 call k [1,1,0,1] a H K = g12 call k [1,1,0,1,0] a H (hBlock 0 K) := at_block (by kernel_rfl)
theorem n12_8 : g12 call k [1,1,0,1,0] a H K = gLoop (g12 call k [1,1,0,1,0,0]) K k a H := at_loop (by kernel_rfl)
theorem n12_9 : g12 call k [1,1,0,1,0,0] a H K = g12 call k [1,1,0,1,0,0,0] a H (hSeq (g12 call k [1,1,0,1,0,0,1]) K) := at_seq (by kernel_rfl)
theorem n12_10 : g12 call k [1,1,0,1,0,0,0] a H K = o12 0 call [1,1,0,1,0,0,0] 0 a H (K .normal) := at_region (by kernel_rfl)
theorem n12_11 : g12 call k [1,1,0,1,0,0,1] a H K = g12 call k [1,1,0,1,0,0,1,0] a H (hSeq (g12 call k [1,1,0,1,0,0,1,1]) K) := at_seq (by kernel_rfl)
theorem n12_12 : g12 call k [1,1,0,1,0,0,1,0] a H K = onBool (asB (GA.eval a (.tmp 10))) (g12 call k [1,1,0,1,0,0,1,0,0] a H K) (g12 call k [1,1,0,1,0,0,1,0,1] a H K) := at_cond (by kernel_rfl)
theorem n12_13 : g12 call k [1,1,0,1,0,0,1,0,0] a H K = K .normal a H := at_skip (by kernel_rfl)
theorem n12_14 : g12 call k [1,1,0,1,0,0,1,1] a H K = g12 call k [1,1,0,1,0,0,1,1,0] a H (hSeq (g12 call k [1,1,0,1,0,0,1,1,1]) K) := at_seq (by kernel_rfl)
theorem n12_15 : g12 call k [1,1,0,1,0,0,1,1,0] a H K = g12 call k [1,1,0,1,0,0,1,1,0,0] a H (hBlock 1 K) := at_block (by kernel_rfl)
theorem n12_16 : g12 call k [1,1,0,1,0,0,1,1,0,0] a H K = g12 call k [1,1,0,1,0,0,1,1,0,0,0] a H (hSeq (g12 call k [1,1,0,1,0,0,1,1,0,0,1]) K) := at_seq (by kernel_rfl)
theorem n12_17 : g12 call k [1,1,0,1,0,0,1,1,0,0,0] a H K = o12 0 call [1,1,0,1,0,0,1,1,0,0,0] 0 a H (K .normal) := at_region (by kernel_rfl)
theorem n12_18 : g12 call k [1,1,0,1,0,0,1,1,0,0,1] a H K = g12 call k [1,1,0,1,0,0,1,1,0,0,1,0] a H (hSeq (g12 call k [1,1,0,1,0,0,1,1,0,0,1,1]) K) := at_seq (by kernel_rfl)
theorem n12_19 : g12 call k [1,1,0,1,0,0,1,1,0,0,1,0] a H K = o12 0 call [1,1,0,1,0,0,1,1,0,0,1,0] 0 a H (K .normal) := at_region (by kernel_rfl)
theorem n12_20 : g12 call k [1,1,0,1,0,0,1,1,0,0,1,1] a H K = g12 call k [1,1,0,1,0,0,1,1,0,0,1,1,0] a H (hSeq (g12 call k [1,1,0,1,0,0,1,1,0,0,1,1,1]) K) := at_seq (by kernel_rfl)
theorem n12_21 : g12 call k [1,1,0,1,0,0,1,1,0,0,1,1,0] a H K = o12 0 call [1,1,0,1,0,0,1,1,0,0,1,1,0] 0 a H (K .normal) := at_region (by kernel_rfl)
theorem n12_22 : g12 call k [1,1,0,1,0,0,1,1,0,0,1,1,1] a H K = g12 call k [1,1,0,1,0,0,1,1,0,0,1,1,1,0] a H (hBlock 2 K) := at_block (by kernel_rfl)
theorem n12_23 : g12 call k [1,1,0,1,0,0,1,1,0,0,1,1,1,0] a H K = gLoop (g12 call k [1,1,0,1,0,0,1,1,0,0,1,1,1,0,0]) K k a H := at_loop (by kernel_rfl)
theorem n12_24 : g12 call k [1,1,0,1,0,0,1,0,1] a H K = K (.exit 0) a H := at_exit (by kernel_rfl)
theorem n12_25 : g12 call k [1,1,1] a H K = g12 call k [1,1,1,0] a H (hSeq (g12 call k [1,1,1,1]) K) := at_seq (by kernel_rfl)
theorem n12_26 : g12 call k [1,1,1,0] a H K = o12 0 call [1,1,1,0] 0 a H (K .normal) := at_region (by kernel_rfl)
theorem n12_27 : g12 call k [1,1,1,1] a H K = K .ret a H := at_ret (by kernel_rfl)
theorem n12_28 : g12 call k [1,1,0,1,0,0,1,1,0,0,1,1,1,0,0] a H K = g12 call k [1,1,0,1,0,0,1,1,0,0,1,1,1,0,0,0] a H (hSeq (g12 call k [1,1,0,1,0,0,1,1,0,0,1,1,1,0,0,1]) K) := at_seq (by kernel_rfl)
theorem n12_29 : g12 call k [1,1,0,1,0,0,1,1,0,0,1,1,1,0,0,0] a H K = o12 0 call [1,1,0,1,0,0,1,1,0,0,1,1,1,0,0,0] 0 a H (K .normal) := at_region (by kernel_rfl)
theorem n12_30 : g12 call k [1,1,0,1,0,0,1,1,0,0,1,1,1,0,0,1] a H K = g12 call k [1,1,0,1,0,0,1,1,0,0,1,1,1,0,0,1,0] a H (hSeq (g12 call k [1,1,0,1,0,0,1,1,0,0,1,1,1,0,0,1,1]) K) := at_seq (by kernel_rfl)
theorem n12_31 : g12 call k [1,1,0,1,0,0,1,1,0,0,1,1,1,0,0,1,0] a H K = onBool (asB (GA.eval a (.tmp 19))) (g12 call k [1,1,0,1,0,0,1,1,0,0,1,1,1,0,0,1,0,0] a H K) (g12 call k [1,1,0,1,0,0,1,1,0,0,1,1,1,0,0,1,0,1] a H K) := at_cond (by kernel_rfl)
theorem n12_32 : g12 call k [1,1,0,1,0,0,1,1,0,0,1,1,1,0,0,1,0,0] a H K = K .normal a H := at_skip (by kernel_rfl)
theorem n12_33 : g12 call k [1,1,0,1,0,0,1,1,0,0,1,1,1,0,0,1,1] a H K = g12 call k [1,1,0,1,0,0,1,1,0,0,1,1,1,0,0,1,1,0] a H (hSeq (g12 call k [1,1,0,1,0,0,1,1,0,0,1,1,1,0,0,1,1,1]) K) := at_seq (by kernel_rfl)
theorem n12_34 : g12 call k [1,1,0,1,0,0,1,1,0,0,1,1,1,0,0,1,1,0] a H K = g12 call k [1,1,0,1,0,0,1,1,0,0,1,1,1,0,0,1,1,0,0] a H (hBlock 3 K) := at_block (by kernel_rfl)
theorem n12_35 : g12 call k [1,1,0,1,0,0,1,1,0,0,1,1,1,0,0,1,1,0,0] a H K = g12 call k [1,1,0,1,0,0,1,1,0,0,1,1,1,0,0,1,1,0,0,0] a H (hSeq (g12 call k [1,1,0,1,0,0,1,1,0,0,1,1,1,0,0,1,1,0,0,1]) K) := at_seq (by kernel_rfl)
theorem n12_36 : g12 call k [1,1,0,1,0,0,1,1,0,0,1,1,1,0,0,1,1,0,0,0] a H K = o12 0 call [1,1,0,1,0,0,1,1,0,0,1,1,1,0,0,1,1,0,0,0] 0 a H (K .normal) := at_region (by kernel_rfl)
theorem n12_37 : g12 call k [1,1,0,1,0,0,1,1,0,0,1,1,1,0,0,1,1,0,0,1] a H K = g12 call k [1,1,0,1,0,0,1,1,0,0,1,1,1,0,0,1,1,0,0,1,0] a H (hSeq (g12 call k [1,1,0,1,0,0,1,1,0,0,1,1,1,0,0,1,1,0,0,1,1]) K) := at_seq (by kernel_rfl)
theorem n12_38 : g12 call k [1,1,0,1,0,0,1,1,0,0,1,1,1,0,0,1,1,0,0,1,0] a H K = o12 0 call [1,1,0,1,0,0,1,1,0,0,1,1,1,0,0,1,1,0,0,1,0] 0 a H (K .normal) := at_region (by kernel_rfl)
theorem n12_39 : g12 call k [1,1,0,1,0,0,1,1,0,0,1,1,1,0,0,1,1,0,0,1,1] a H K = o12 0 call [1,1,0,1,0,0,1,1,0,0,1,1,1,0,0,1,1,0,0,1,1] 0 a H (K .normal) := at_region (by kernel_rfl)
theorem n12_40 : g12 call k [1,1,0,1,0,0,1,1,0,0,1,1,1,0,0,1,1,1] a H K = o12 0 call [1,1,0,1,0,0,1,1,0,0,1,1,1,0,0,1,1,1] 0 a H (K .normal) := at_region (by kernel_rfl)
theorem n12_41 : g12 call k [1,1,0,1,0,0,1,1,0,0,1,1,1,0,0,1,0,1] a H K = K (.exit 2) a H := at_exit (by kernel_rfl)
theorem n12_42 : g12 call k [1,1,0,1,0,0,1,1,1] a H K = o12 0 call [1,1,0,1,0,0,1,1,1] 0 a H (K .normal) := at_region (by kernel_rfl)
theorem s12_0 : o12 0 call [0] 0 (FG 31 (fun _ => undef) [(0, p0)]) H K' =
  K' (FG 31 (fun _ => undef) [(2, (.int .u16 0)), (0, p0)]) H := by kernel_rfl
theorem s12_1 : o12 0 call [1,0] 0 (FG 31 (fun _ => undef) [(2, (.int .u16 0)), (0, p0)]) H K' =
  K' (FG 31 (fun _ => undef) [(3, (.int .u16 65535)), (2, (.int .u16 0)), (0, p0)]) H := by kernel_rfl
theorem s12_2 : o12 0 call [1,1,0,0] 0 (FG 31 (fun _ => undef) [(3, (.int .u16 65535)), (2, (.int .u16 0)), (0, p0)]) H K' =
  onV (oLen Tryd.prog 24 p0) fun v1 =>
  K' (FG 31 (fun _ => undef) [(9, (.int .i64 0)), (8, v1), (7, p0), (3, (.int .u16 65535)), (2, (.int .u16 0)), (0, p0)]) H := by kernel_rfl
theorem s12_3 : o12 0 call [1,1,0,1,0,0,0] 0 (FF 31 d) H K' =
  onV ((oBin Tryd.prog .lss 3 (d 9) (d 8)).filter closed) fun v1 =>
  K' (FG 31 d [(10, v1)]) H := by kernel_rfl
theorem s12_4 : o12 0 call [1,1,0,1,0,0,1,1,0,0,0] 0 (FG 31 d [(10, v1)]) H K' =
  onV (oIndexAddr Tryd.prog 24 (d 7) (d 9)) fun v2 =>
  onV (gLoad Tryd.prog 5 v2 H) fun v3 =>
  K' (FG 31 d [(5, v3), (12, v3), (11, v2), (10, v1)]) H := by kernel_rfl
theorem s12_5 : o12 0 call [1,1,0,1,0,0,1,1,0,0,1,0] 0 (FG 31 d [(5, v3), (12, v3), (11, v2), (10, v1)]) H K' =
  onV ((oConvert Tryd.prog 5 40 v3).filter closed) fun v4 =>
  onV ((oBin Tryd.prog .shl 40 v4 (.int .u64 8)).filter closed) fun v5 =>
  onV ((oBin Tryd.prog .xor 40 (d 3) v5).filter closed) fun v6 =>
  K' (FG 31 d [(3, v6), (17, v6), (16, v5), (15, v4), (14, v3), (13, (d 3)), (5, v3), (12, v3), (11, v2), (10, v1)]) H := by kernel_rfl
theorem s12_6 : o12 0 call [1,1,0,1,0,0,1,1,0,0,1,1,0] 0 (FG 31 d [(3, v6), (17, v6), (16, v5), (15, v4), (14, v3), (13, (d 3)), (5, v3), (12, v3), (11, v2), (10, v1)]) H K' =
  K' (FG 31 d [(18, (.int .i64 0)), (3, v6), (17, v6), (16, v5), (15, v4), (14, v3), (13, (d 3)), (5, v3), (12, v3), (11, v2), (10, v1)]) H := by kernel_rfl
theorem s12_7 : o12 0 call [1,1,1,0] 0 (FG 31 d [(10, v1)]) H K' =
  K' (FG 31 d [(2, (d 3)), (30, (d 3)), (10, v1)]) H := by kernel_rfl
theorem s12_8 : o12 0 call [1,1,0,1,0,0,1,1,0,0,1,1,1,0,0,0] 0 (FF 31 d) H K' =
  onV ((oBin Tryd.prog .lss 3 (d 18) (.int .i64 8)).filter closed) fun v1 =>
  K' (FG 31 d [(19, v1)]) H := by kernel_rfl
theorem s12_9 : o12 0 call [1,1,0,1,0,0,1,1,0,0,1,1,1,0,0,1,1,0,0,0] 0 (FG 31 d [(19, v1)]) H K' =
  onV ((oBin Tryd.prog .shr 40 (d 3) (.int .u64 15)).filter closed) fun v2 =>
  K' (FG 31 d [(6, v2), (21, v2), (20, (d 3)), (19, v1)]) H := by kernel_rfl
theorem s12_10 : o12 0 call [1,1,0,1,0,0,1,1,0,0,1,1,1,0,0,1,1,0,0,1,0] 0 (FG 31 d [(6, v2), (21, v2), (20, (d 3)), (19, v1)]) H K' =
  onV ((oBin Tryd.prog .shl 40 (d 3) (.int .u64 1)).filter closed) fun v3 =>
  K' (FG 31 d [(3, v3), (23, v3), (22, (d 3)), (6, v2), (21, v2), (20, (d 3)), (19, v1)]) H := by kernel_rfl
theorem s12_11 : o12 0 call [1,1,0,1,0,0,1,1,0,0,1,1,1,0,0,1,1,0,0,1,1] 0 (FG 31 d [(3, v3), (23, v3), (22, (d 3)), (6, v2), (21, v2), (20, (d 3)), (19, v1)]) H K' =
  onV ((oBin Tryd.prog .mul 40 v2 (.int .u16 4129)).filter closed) fun v4 =>
  onV ((oBin Tryd.prog .xor 40 v3 v4).filter closed) fun v5 =>
  K' (FG 31 d [(3, v5), (27, v5), (26, v4), (25, v2), (24, v3), (3, v3), (23, v3), (22, (d 3)), (6, v2), (21, v2), (20, (d 3)), (19, v1)]) H := by kernel_rfl
theorem s12_12 : o12 0 call [1,1,0,1,0,0,1,1,0,0,1,1,1,0,0,1,1,1] 0 (FG 31 d [(3, v5), (27, v5), (26, v4), (25, v2), (24, v3), (3, v3), (23, v3), (22, (d 3)), (6, v2), (21, v2), (20, (d 3)), (19, v1)]) H K' =
  onV ((oBin Tryd.prog .add 3 (d 18) (.int .i64 1)).filter closed) fun v6 =>
  K' (FG 31 d [(18, v6), (28, v6), (3, v5), (27, v5), (26, v4), (25, v2), (24, v3), (3, v3), (23, v3), (22, (d 3)), (6, v2), (21, v2), (20, (d 3)), (19, v1)]) H := by kernel_rfl
theorem s12_13 : o12 0 call [1,1,0,1,0,0,1,1,1] 0 (FG 31 d [(19, v1)]) H K' =
  onV ((oBin Tryd.prog .add 3 (d 9) (.int .i64 1)).filter closed) fun v7 =>
  K' (FG 31 d [(9, v7), (29, v7), (19, v1)]) H := by kernel_rfl
def f12_l7_P (ag : AG) (sg : Sg5) : Prop := ∀ (d : Nat → Value) (H : GH), ag (FF 31 d) H = sg (d 3) (d 7) (d 8) (d 9) (d 18) H
theorem f12_l7_at {ag : AG} {sg : Sg5} (h : f12_l7_P ag sg) : ag (FF 31 d) H = sg (d 3) (d 7) (d 8) (d 9) (d 18) H := h d H
def f12_l3_P (ag : AG) (sg : Sg4) : Prop := ∀ (d : Nat → Value) (H : GH), ag (FF 31 d) H = sg (d 3) (d 7) (d 8) (d 9) H
theorem f12_l3_at {ag : AG} {sg : Sg4} (h : f12_l3_P ag sg) : ag (FF 31 d) H = sg (d 3) (d 7) (d 8) (d 9) H := h d H
noncomputable def f12_l7b (call : Handle) (k : Nat) (sg_l3 : Sg4) (sg_l7 : Sg5) (x3 x7 x8 x9 x18 : Value) (H : GH) : M (Value × GH) :=
  onV ((oBin Tryd.prog .lss 3 x18 (.int .i64 8)).filter closed) fun v1 =>
  onBool (asB v1)
  (onV ((oBin Tryd.prog .shr 40 x3 (.int .u64 15)).filter closed) fun v2 =>
  onV ((oBin Tryd.prog .shl 40 x3 (.int .u64 1)).filter closed) fun v3 =>
  onV ((oBin Tryd.prog .mul 40 v2 (.int .u16 4129)).filter closed) fun v4 =>
  onV ((oBin Tryd.prog .xor 40 v3 v4).filter closed) fun v5 =>
  onV ((oBin Tryd.prog .add 3 x18 (.int .i64 1)).filter closed) fun v6 =>
  (sg_l7 v5 x7 x8 x9 v6 H))
  (onV ((oBin Tryd.prog .add 3 x9 (.int .i64 1)).filter closed) fun v7 =>
  (sg_l3 x3 x7 x8 v7 H))
theorem f12_l7b_eq (call : Handle) (k : Nat) (ag_l3 : AG) (sg_l3 : Sg4) (h_l3 : f12_l3_P ag_l3 sg_l3) (ag_l7 : AG) (sg_l7 : Sg5) (h_l7 : f12_l7_P ag_l7 sg_l7) : g12 call k [1,1,0,1,0,0,1,1,0,0,1,1,1,0,0] (FF 31 d) H (hLoop ag_l7 (hBlock 2 (hBlock 1 (hSeq (g12 call k [1,1,0,1,0,0,1,1,1]) (hLoop ag_l3 (hBlock 0 (hSeq (g12 call k [1,1,1]) (hFin Tryd.prog Tryd.f12)))))))) = f12_l7b call k sg_l3 sg_l7 (d 3) (d 7) (d 8) (d 9) (d 18) H := by
  unfold f12_l7b
  rw [n12_28]
  rw [n12_29]
  rw [s12_8]
  refine onV_c fun v1 => ?_
  rw [hSeq_n]
  rw [n12_30]
  rw [n12_31]
  refine onBool_cc (by kernel_rfl) ?_ ?_
  · rw [n12_32]
    rw [hSeq_n]
    rw [n12_33]
    rw [n12_34]
    rw [n12_35]
    rw [n12_36]
    rw [s12_9]
    refine onV_c fun v2 => ?_
    rw [hSeq_n]
    rw [n12_37]
    rw [n12_38]
    rw [s12_10]
    refine onV_c fun v3 => ?_
    rw [hSeq_n]
    rw [n12_39]
    rw [s12_11]
    refine onV_c fun v4 => ?_
    refine onV_c fun v5 => ?_
    rw [hBlock_n]
    rw [hSeq_n]
    rw [n12_40]
    rw [s12_12]
    refine onV_c fun v6 => ?_
    rw [hLoop_n]
    generalize e : (FG 31 d [(18, v6), (28, v6), (3, v5), (27, v5), (26, v4), (25, v2), (24, v3), (3, v3), (23, v3), (22, (d 3)), (6, v2), (21, v2), (20, (d 3)), (19, v1)]) = a
    rw [show a = (FF 31 (gf a)) from (FF_gf (by subst e; exact FG_len)).symm]
    exact (f12_l7_at (d := gf a) h_l7).trans (by subst e; kernel_rfl)
  · rw [n12_41]
    rw [hSeq_e, hLoop_e, hBlock_hit]
    rw [hBlock_n]
    rw [hSeq_n]
    rw [n12_42]
    rw [s12_13]
    refine onV_c fun v7 => ?_
    rw [hLoop_n]
    generalize e : (FG 31 d [(9, v7), (29, v7), (19, v1)]) = a
    rw [show a = (FF 31 (gf a)) from (FF_gf (by subst e; exact FG_len)).symm]
    exact (f12_l3_at (d := gf a) h_l3).trans (by subst e; kernel_rfl)
noncomputable def f12_l7 (call : Handle) (k : Nat) (sg_l3 : Sg4) : Nat → Value → Value → Value → Value → Value → GH → M (Value × GH)
  | 0, _, _, _, _, _, _ => none
  | r + 1, x3, x7, x8, x9, x18, H => f12_l7b call k sg_l3 (f12_l7 call k sg_l3 r) x3 x7 x8 x9 x18 H
theorem f12_l7_eq (call : Handle) (k : Nat) (ag_l3 : AG) (sg_l3 : Sg4) (h_l3 : f12_l3_P ag_l3 sg_l3) : ∀ (r : Nat), f12_l7_P (gLoop (g12 call k [1,1,0,1,0,0,1,1,0,0,1,1,1,0,0]) (hBlock 2 (hBlock 1 (hSeq (g12 call k [1,1,0,1,0,0,1,1,1]) (hLoop ag_l3 (hBlock 0 (hSeq (g12 call k [1,1,1]) (hFin Tryd.prog Tryd.f12))))))) r) (f12_l7 call k sg_l3 r) := by
  intro r
  induction r with
  | zero => unfold f12_l7_P; intros; rfl
  | succ r ih => unfold f12_l7_P; intros; exact f12_l7b_eq call k ag_l3 sg_l3 h_l3 _ _ ih
noncomputable def f12_l3b (call : Handle) (k : Nat) (sg_l3 : Sg4) (x3 x7 x8 x9 : Value) (H : GH) : M (Value × GH) :=
  onV ((oBin Tryd.prog .lss 3 x9 x8).filter closed) fun v1 =>
  onBool (asB v1)
  (onV (oIndexAddr Tryd.prog 24 x7 x9) fun v2 =>
  onV (gLoad Tryd.prog 5 v2 H) fun v3 =>
  onV ((oConvert Tryd.prog 5 40 v3).filter closed) fun v4 =>
  onV ((oBin Tryd.prog .shl 40 v4 (.int .u64 8)).filter closed) fun v5 =>
  onV ((oBin Tryd.prog .xor 40 x3 v5).filter closed) fun v6 =>
  (f12_l7 call k (sg_l3) k v6 x7 x8 x9 (.int .i64 0) H))
  (some [(x3, H)])
theorem f12_l3b_eq (call : Handle) (k : Nat) (ag_l3 : AG) (sg_l3 : Sg4) (h_l3 : f12_l3_P ag_l3 sg_l3) : g12 call k [1,1,0,1,0,0] (FF 31 d) H (hLoop ag_l3 (hBlock 0 (hSeq (g12 call k [1,1,1]) (hFin Tryd.prog Tryd.f12)))) = f12_l3b call k sg_l3 (d 3) (d 7) (d 8) (d 9) H := by
  unfold f12_l3b
  rw [n12_9]
  rw [n12_10]
  rw [s12_3]
  refine onV_c fun v1 => ?_
  rw [hSeq_n]
  rw [n12_11]
  rw [n12_12]
  refine onBool_cc (by kernel_rfl) ?_ ?_
  · rw [n12_13]
    rw [hSeq_n]
    rw [n12_14]
    rw [n12_15]
    rw [n12_16]
    rw [n12_17]
    rw [s12_4]
    refine onV_c fun v2 => ?_
    refine onV_c fun v3 => ?_
    rw [hSeq_n]
    rw [n12_18]
    rw [n12_19]
    rw [s12_5]
    refine onV_c fun v4 => ?_
    refine onV_c fun v5 => ?_
    refine onV_c fun v6 => ?_
    rw [hSeq_n]
    rw [n12_20]
    rw [n12_21]
    rw [s12_6]
    rw [hSeq_n]
    rw [n12_22]
    rw [n12_23]
    generalize e : (FG 31 d [(18, (.int .i64 0)), (3, v6), (17, v6), (16, v5), (15, v4), (14, v3), (13, (d 3)), (5, v3), (12, v3), (11, v2), (10, v1)]) = a
    rw [show a = (FF 31 (gf a)) from (FF_gf (by subst e; exact FG_len)).symm]
    exact (f12_l7_at (d := gf a) (f12_l7_eq call k ag_l3 sg_l3 h_l3 k)).trans (by subst e; kernel_rfl)
  · rw [n12_24]
    rw [hSeq_e, hLoop_e, hBlock_hit]
    rw [hSeq_n]
    rw [n12_25]
    rw [n12_26]
    rw [s12_7]
    rw [hSeq_n]
    rw [n12_27]
    kernel_rfl
noncomputable def f12_l3 (call : Handle) (k : Nat) : Nat → Value → Value → Value → Value → GH → M (Value × GH)
  | 0, _, _, _, _, _ => none
  | r + 1, x3, x7, x8, x9, H => f12_l3b call k (f12_l3 call k r) x3 x7 x8 x9 H
theorem f12_l3_eq (call : Handle) (k : Nat) : ∀ (r : Nat), f12_l3_P (gLoop (g12 call k [1,1,0,1,0,0]) (hBlock 0 (hSeq (g12 call k [1,1,1]) (hFin Tryd.prog Tryd.f12))) r) (f12_l3 call k r) := by
  intro r
  induction r with
  | zero => unfold f12_l3_P; intros; rfl
  | succ r ih => unfold f12_l3_P; intros; exact f12_l3b_eq call k _ _ ih
noncomputable def f12_sh (call : Handle) (k : Nat) (p0 : Value) (H : GH) : M (Value × GH) :=
  onV (oLen Tryd.prog 24 p0) fun v1 =>
  (f12_l3 call k k (.int .u16 65535) p0 v1 (.int .i64 0) H)
theorem f12_run (call : Handle) (k : Nat) (p0 : Value) (H : GH) : g12 call k [] (FG 31 (fun _ => undef) [(0, p0)]) H (hFin Tryd.prog Tryd.f12) = f12_sh call k p0 H := by
  unfold f12_sh
  rw [n12_0]
  rw [n12_1]
  rw [s12_0]
  rw [hSeq_n]
  rw [n12_2]
  rw [n12_3]
  rw [s12_1]
  rw [hSeq_n]
  rw [n12_4]
  rw [n12_5]
  rw [n12_6]
  rw [s12_2]
  refine onV_c fun v1 => ?_
  rw [hSeq_n]
  rw [n12_7]
  rw [n12_8]
  generalize e : (FG 31 (fun _ => undef) [(9, (.int .i64 0)), (8, v1), (7, p0), (3, (.int .u16 65535)), (2, (.int .u16 0)), (0, p0)]) = a
  rw [show a = (FF 31 (gf a)) from (FF_gf (by subst e; exact FG_len)).symm]
  exact (f12_l3_at (d := gf a) (f12_l3_eq call k k)).trans (by subst e; kernel_rfl)
theorem f12_eq (call : Handle) (k : Nat) (p0 : Value) (H : GH) : gFunc Tryd.prog call k Tryd.f12 [p0] H = f12_sh call k p0 H :=
  Eq.trans (by kernel_rfl) (f12_run call k p0 H)
end
noncomputable def g14 {β : Type} (call : Handle) (k : Nat) (p : List Nat) : GA → GH → Kont β → M β := gCode Tryd.prog call k (fAt Tryd.f14 p)
noncomputable def o14 {β : Type} (d : Nat) (call : Handle) (p : List Nat) (i : Nat) : GA → GH → (GA → GH → M β) → M β := gOps Tryd.prog d call (opsAt (fAt Tryd.f14 p)) i ((opsAt (fAt Tryd.f14 p)).drop i)
noncomputable def t14 {β : Type} (d : Nat) (call : Handle) (p : List Nat) (i n : Nat) : GA → GH → (GA → GH → M β) → M β := gOps Tryd.prog d call (opsAt (fAt Tryd.f14 p)) i (((opsAt (fAt Tryd.f14 p)).drop i).take n)
theorem o14_s {β : Type} {d : Nat} {call : Handle} {p : List Nat} {a : GA} {H : GH} {K : GA → GH → M β} (i n : Nat) : o14 d call p i a H K = t14 d call p i n a H fun a H => o14 d call p (i + n) a H K := gOps_split i n
section
variable {β : Type} {call : Handle} {k : Nat} {a : GA} {K : Kont β} {K' : GA → GH → M β}
variable {d : Nat → Value} {xg : Value}
variable {p0 : Value}
variable {v1 v2 v3 v4 v5 v6 v7 : Value}
variable {H H2 H6 H8 : GH}
theorem n14_0 : g14 call k [] a H K = g14 call k [0] a H (hSeq (g14 call k [1]) K) := at_seq (by kernel_rfl)
theorem n14_1 : g14 call k [0] a H K = o14 0 call [0] 0 a H (K .normal) := at_region (by kernel_rfl)
theorem n14_2 : g14 call k [1] a H K = g14 call k [1,0] a H (hSeq (g14 call k [1,1]) K) := at_seq (by kernel_rfl)
theorem n14_3 : g14 call k [1,0] a H K = o14 0 call [1,0] 0 a H (K .normal) := at_region (by kernel_rfl)
theorem n14_4 : g14 call k [1,1] a H K = g14 call k [1,1,0] a H (hSeq (g14 call k [1,1,1]) K) := at_seq (by kernel_rfl)
theorem n14_5 : g14 call k [1,1,0] a H K = g14 call k [1,1,0,0] a H (hSeq (g14 call k [1,1,0,1]) K) := at_seq (by kernel_rfl)
theorem n14_6 : g14 call k [1,1,0,0] a H K = o14 0 call [1,1,0,0] 0 a H (K .normal) := at_region (by kernel_rfl)
theorem n14_7 : g14 call k [1,1,0,1] a H K = g14 call k [1,1,0,1,0] a H (hBlock 0 K) := at_block (by kernel_rfl)
theorem n14_8 : g14 call k [1,1,0,1,0] a H K = gLoop (g14 call k [1,1,0,1,0,0]) K k a H := at_loop (by kernel_rfl)
theorem n14_9 : g14 call k [1,1,0,1,0,0] a H K = g14 call k [1,1,0,1,0,0,0] a H (hSeq (g14 call k [1,1,0,1,0,0,1]) K) := at_seq (by kernel_rfl)
theorem n14_10 : g14 call k [1,1,0,1,0,0,0] a H K = g14 call k [1,1,0,1,0,0,0,0] a H (hSeq (g14 call k [1,1,0,1,0,0,0,1]) K) := at_seq (by kernel_rfl)
theorem n14_11 : g14 call k [1,1,0,1,0,0,0,0] a H K = o14 0 call [1,1,0,1,0,0,0,0] 0 a H (K .normal) := at_region (by kernel_rfl)
theorem n14_12 : g14 call k [1,1,0,1,0,0,0,1] a H K = onBool (asB (GA.eval a (.tmp 17))) (g14 call k [1,1,0,1,0,0,0,1,0] a H K) (g14 call k [1,1,0,1,0,0,0,1,1] a H K) := at_cond (by kernel_rfl)
theorem n14_13 : g14 call k [1,1,0,1,0,0,0,1,0] a H K = K .normal a H := at_skip (by kernel_rfl)
theorem n14_14 : g14 call k [1,1,0,1,0,0,1] a H K = g14 call k [1,1,0,1,0,0,1,0] a H (hSeq (g14 call k [1,1,0,1,0,0,1,1]) K) := at_seq (by kernel_rfl)
theorem n14_15 : g14 call k [1,1,0,1,0,0,1,0] a H K = g14 call k [1,1,0,1,0,0,1,0,0] a H (hBlock 1 K) := at_block (by kernel_rfl)
theorem n14_16 : g14 call k [1,1,0,1,0,0,1,0,0] a H K = g14 call k [1,1,0,1,0,0,1,0,0,0] a H (hSeq (g14 call k [1,1,0,1,0,0,1,0,0,1]) K) := at_seq (by kernel_rfl)
theorem n14_17 : g14 call k [1,1,0,1,0,0,1,0,0,0] a H K = o14 0 call [1,1,0,1,0,0,1,0,0,0] 0 a H (K .normal) := at_region (by kernel_rfl)
theorem n14_18 : g14 call k [1,1,0,1,0,0,1,0,0,1] a H K = g14 call k [1,1,0,1,0,0,1,0,0,1,0] a H (hSeq (g14 call k [1,1,0,1,0,0,1,0,0,1,1]) K) := at_seq (by kernel_rfl)
theorem n14_19 : g14 call k [1,1,0,1,0,0,1,0,0,1,0] a H K = g14 call k [1,1,0,1,0,0,1,0,0,1,0,0] a H (hSeq (g14 call k [1,1,0,1,0,0,1,0,0,1,0,1]) K) := at_seq (by kernel_rfl)
theorem n14_20 : g14 call k [1,1,0,1,0,0,1,0,0,1,0,0] a H K = o14 0 call [1,1,0,1,0,0,1,0,0,1,0,0] 0 a H (K .normal) := at_region (by kernel_rfl)
theorem n14_21 : g14 call k [1,1,0,1,0,0,1,0,0,1,0,1] a H K = onBool (asB (GA.eval a (.tmp 23))) (g14 call k [1,1,0,1,0,0,1,0,0,1,0,1,0] a H K) (g14 call k [1,1,0,1,0,0,1,0,0,1,0,1,1] a H K) := at_cond (by kernel_rfl)
theorem n14_22 : g14 call k [1,1,0,1,0,0,1,0,0,1,0,1,0] a H K = o14 0 call [1,1,0,1,0,0,1,0,0,1,0,1,0] 0 a H (K .normal) := at_region (by kernel_rfl)
theorem n14_23 : g14 call k [1,1,0,1,0,0,1,0,0,1,0,1,1] a H K = K .normal a H := at_skip (by kernel_rfl)
theorem n14_24 : g14 call k [1,1,0,1,0,0,0,1,1] a H K = K (.exit 0) a H := at_exit (by kernel_rfl)
theorem n14_25 : g14 call k [1,1,0,1,0,0,1,0,0,1,1] a H K = g14 call k [1,1,0,1,0,0,1,0,0,1,1,0] a H (hSeq (g14 call k [1,1,0,1,0,0,1,0,0,1,1,1]) K) := at_seq (by kernel_rfl)
theorem n14_26 : g14 call k [1,1,0,1,0,0,1,0,0,1,1,0] a H K = o14 0 call [1,1,0,1,0,0,1,0,0,1,1,0] 0 a H (K .normal) := at_region (by kernel_rfl)
theorem n14_27 : g14 call k [1,1,0,1,0,0,1,0,0,1,1,1] a H K = g14 call k [1,1,0,1,0,0,1,0,0,1,1,1,0] a H (hBlock 2 K) := at_block (by kernel_rfl)
theorem n14_28 : g14 call k [1,1,0,1,0,0,1,0,0,1,1,1,0] a H K = gLoop (g14 call k [1,1,0,1,0,0,1,0,0,1,1,1,0,0]) K k a H := at_loop (by kernel_rfl)
theorem n14_29 : g14 call k [1,1,1] a H K = g14 call k [1,1,1,0] a H (hSeq (g14 call k [1,1,1,1]) K) := at_seq (by kernel_rfl)
theorem n14_30 : g14 call k [1,1,1,0] a H K = g14 call k [1,1,1,0,0] a H (hSeq (g14 call k [1,1,1,0,1]) K) := at_seq (by kernel_rfl)
theorem n14_31 : g14 call k [1,1,1,0,0] a H K = o14 0 call [1,1,1,0,0] 0 a H (K .normal) := at_region (by kernel_rfl)
theorem n14_32 : g14 call k [1,1,1,0,1] a H K = g14 call k [1,1,1,0,1,0] a H (hBlock 4 K) := at_block (by kernel_rfl)
theorem n14_33 : g14 call k [1,1,1,0,1,0] a H K = gLoop (g14 call k [1,1,1,0,1,0,0]) K k a H := at_loop (by kernel_rfl)
theorem n14_34 : g14 call k [1,1,0,1,0,0,1,0,0,1,1,1,0,0] a H K = g14 call k [1,1,0,1,0,0,1,0,0,1,1,1,0,0,0] a H (hSeq (g14 call k [1,1,0,1,0,0,1,0,0,1,1,1,0,0,1]) K) := at_seq (by kernel_rfl)
theorem n14_35 : g14 call k [1,1,0,1,0,0,1,0,0,1,1,1,0,0,0] a H K = g14 call k [1,1,0,1,0,0,1,0,0,1,1,1,0,0,0,0] a H (hSeq (g14 call k [1,1,0,1,0,0,1,0,0,1,1,1,0,0,0,1]) K) := at_seq (by kernel_rfl)
theorem n14_36 : g14 call k [1,1,0,1,0,0,1,0,0,1,1,1,0,0,0,0] a H K = o14 0 call [1,1,0,1,0,0,1,0,0,1,1,1,0,0,0,0] 0 a H (K .normal) := at_region (by kernel_rfl)
theorem n14_37 : g14 call k [1,1,0,1,0,0,1,0,0,1,1,1,0,0,0,1] a H K = onBool (asB (GA.eval a (.tmp 30))) (g14 call k [1,1,0,1,0,0,1,0,0,1,1,1,0,0,0,1,0] a H K) (g14 call k [1,1,0,1,0,0,1,0,0,1,1,1,0,0,0,1,1] a H K) := at_cond (by kernel_rfl)
theorem n14_38 : g14 call k [1,1,0,1,0,0,1,0,0,1,1,1,0,0,0,1,0] a H K = K .normal a H := at_skip (by kernel_rfl)
theorem n14_39 : g14 call k [1,1,0,1,0,0,1,0,0,1,1,1,0,0,1] a H K = g14 call k [1,1,0,1,0,0,1,0,0,1,1,1,0,0,1,0] a H (hSeq (g14 call k [1,1,0,1,0,0,1,0,0,1,1,1,0,0,1,1]) K) := at_seq (by kernel_rfl)
theorem n14_40 : g14 call k [1,1,0,1,0,0,1,0,0,1,1,1,0,0,1,0] a H K = g14 call k [1,1,0,1,0,0,1,0,0,1,1,1,0,0,1,0,0] a H (hBlock 3 K) := at_block (by kernel_rfl)
theorem n14_41 : g14 call k [1,1,0,1,0,0,1,0,0,1,1,1,0,0,1,0,0] a H K = o14 0 call [1,1,0,1,0,0,1,0,0,1,1,1,0,0,1,0,0] 0 a H (K .normal) := at_region (by kernel_rfl)
theorem n14_42 : g14 call k [1,1,0,1,0,0,1,0,0,1,1,1,0,0,1,1] a H K = o14 0 call [1,1,0,1,0,0,1,0,0,1,1,1,0,0,1,1] 0 a H (K .normal) := at_region (by kernel_rfl)
theorem n14_43 : g14 call k [1,1,0,1,0,0,1,0,0,1,1,1,0,0,0,1,1] a H K = K (.exit 2) a H := at_exit (by kernel_rfl)
theorem n14_44 : g14 call k [1,1,0,1,0,0,1,1] a H K = o14 0 call [1,1,0,1,0,0,1,1] 0 a H (K .normal) := at_region (by kernel_rfl)
theorem n14_45 : g14 call k [1,1,1,0,1,0,0] a H K = g14 call k [1,1,1,0,1,0,0,0] a H (hSeq (g14 call k [1,1,1,0,1,0,0,1]) K) := at_seq (by kernel_rfl)
theorem n14_46 : g14 call k [1,1,1,0,1,0,0,0] a H K = g14 call k [1,1,1,0,1,0,0,0,0] a H (hSeq (g14 call k [1,1,1,0,1,0,0,0,1]) K) := at_seq (by kernel_rfl)
theorem n14_47 : g14 call k [1,1,1,0,1,0,0,0,0] a H K = o14 0 call [1,1,1,0,1,0,0,0,0] 0 a H (K .normal) := at_region (by kernel_rfl)
theorem n14_48 : g14 call k [1,1,1,0,1,0,0,0,1] a H K = onBool (asB (GA.eval a (.tmp 42))) (g14 call k [1,1,1,0,1,0,0,0,1,0] a H K) (g14 call k [1,1,1,0,1,0,0,0,1,1] a H K) := at_cond (by kernel_rfl)
theorem n14_49 : g14 call k [1,1,1,0,1,0,0,0,1,0] a H K = K .normal a H := at_skip (by kernel_rfl)
theorem n14_50 : g14 call k [1,1,1,0,1,0,0,1] a H K = g14 call k [1,1,1,0,1,0,0,1,0] a H (hSeq (g14 call k [1,1,1,0,1,0,0,1,1]) K) := at_seq (by kernel_rfl)
theorem n14_51 : g14 call k [1,1,1,0,1,0,0,1,0] a H K = g14 call k [1,1,1,0,1,0,0,1,0,0] a H (hBlock 5 K) := at_block (by kernel_rfl)
theorem n14_52 : g14 call k [1,1,1,0,1,0,0,1,0,0] a H K = o14 0 call [1,1,1,0,1,0,0,1,0,0] 0 a H (K .normal) := at_region (by kernel_rfl)
theorem n14_53 : g14 call k [1,1,1,0,1,0,0,1,1] a H K = o14 0 call [1,1,1,0,1,0,0,1,1] 0 a H (K .normal) := at_region (by kernel_rfl)
theorem n14_54 : g14 call k [1,1,1,0,1,0,0,0,1,1] a H K = K (.exit 4) a H := at_exit (by kernel_rfl)
theorem n14_55 : g14 call k [1,1,1,1] a H K = g14 call k [1,1,1,1,0] a H (hSeq (g14 call k [1,1,1,1,1]) K) := at_seq (by kernel_rfl)
theorem n14_56 : g14 call k [1,1,1,1,0] a H K = o14 0 call [1,1,1,1,0] 0 a H (K .normal) := at_region (by kernel_rfl)
theorem n14_57 : g14 call k [1,1,1,1,1] a H K = g14 call k [1,1,1,1,1,0] a H (hSeq (g14 call k [1,1,1,1,1,1]) K) := at_seq (by kernel_rfl)
theorem n14_58 : g14 call k [1,1,1,1,1,0] a H K = g14 call k [1,1,1,1,1,0,0] a H (hSeq (g14 call k [1,1,1,1,1,0,1]) K) := at_seq (by kernel_rfl)
theorem n14_59 : g14 call k [1,1,1,1,1,0,0] a H K = o14 0 call [1,1,1,1,1,0,0] 0 a H (K .normal) := at_region (by kernel_rfl)
theorem n14_60 : g14 call k [1,1,1,1,1,0,1] a H K = g14 call k [1,1,1,1,1,0,1,0] a H (hBlock 6 K) := at_block (by kernel_rfl)
theorem n14_61 : g14 call k [1,1,1,1,1,0,1,0] a H K = gLoop (g14 call k [1,1,1,1,1,0,1,0,0]) K k a H := at_loop (by kernel_rfl)
theorem n14_62 : g14 call k [1,1,1,1,1,0,1,0,0] a H K = g14 call k [1,1,1,1,1,0,1,0,0,0] a H (hSeq (g14 call k [1,1,1,1,1,0,1,0,0,1]) K) := at_seq (by kernel_rfl)
theorem n14_63 : g14 call k [1,1,1,1,1,0,1,0,0,0] a H K = g14 call k [1,1,1,1,1,0,1,0,0,0,0] a H (hSeq (g14 call k [1,1,1,1,1,0,1,0,0,0,1]) K) := at_seq (by kernel_rfl)
theorem n14_64 : g14 call k [1,1,1,1,1,0,1,0,0,0,0] a H K = o14 0 call [1,1,1,1,1,0,1,0,0,0,0] 0 a H (K .normal) := at_region (by kernel_rfl)
theorem n14_65 : g14 call k [1,1,1,1,1,0,1,0,0,0,1] a H K = onBool (asB (GA.eval a (.tmp 56))) (g14 call k [1,1,1,1,1,0,1,0,0,0,1,0] a H K) (g14 call k [1,1,1,1,1,0,1,0,0,0,1,1] a H K) := at_cond (by kernel_rfl)
theorem n14_66 : g14 call k [1,1,1,1,1,0,1,0,0,0,1,0] a H K = K .normal a H := at_skip (by kernel_rfl)
theorem n14_67 : g14 call k [1,1,1,1,1,0,1,0,0,1] a H K = g14 call k [1,1,1,1,1,0,1,0,0,1,0] a H (hSeq (g14 call k [1,1,1,1,1,0,1,0,0,1,1]) K) := at_seq (by kernel_rfl)
theorem n14_68 : g14 call k [1,1,1,1,1,0,1,0,0,1,0] a H K = g14 call k [1,1,1,1,1,0,1,0,0,1,0,0] a H (hBlock 7 K) := at_block (by kernel_rfl)
theorem n14_69 : g14 call k [1,1,1,1,1,0,1,0,0,1,0,0] a H K = g14 call k [1,1,1,1,1,0,1,0,0,1,0,0,0] a H (hSeq (g14 call k [1,1,1,1,1,0,1,0,0,1,0,0,1]) K) := at_seq (by kernel_rfl)
theorem n14_70 : g14 call k [1,1,1,1,1,0,1,0,0,1,0,0,0] a H K = g14 call k [1,1,1,1,1,0,1,0,0,1,0,0,0,0] a H (hSeq (g14 call k [1,1,1,1,1,0,1,0,0,1,0,0,0,1]) K) := at_seq (by kernel_rfl)
theorem n14_71 : g14 call k [1,1,1,1,1,0,1,0,0,1,0,0,0,0] a H K = o14 0 call [1,1,1,1,1,0,1,0,0,1,0,0,0,0] 0 a H (K .normal) := at_region (by kernel_rfl)
theorem n14_72 : g14 call k [1,1,1,1,1,0,1,0,0,1,0,0,0,1] a H K = onBool (asB (GA.eval a (.tmp 63))) (g14 call k [1,1,1,1,1,0,1,0,0,1,0,0,0,1,0] a H K) (g14 call k [1,1,1,1,1,0,1,0,0,1,0,0,0,1,1] a H K) := at_cond (by kernel_rfl)
theorem n14_73 : g14 call k [1,1,1,1,1,0,1,0,0,1,0,0,0,1,0] a H K = K (.exit 7) a H := at_exit (by kernel_rfl)
theorem n14_74 : g14 call k [1,1,1,1,1,0,1,0,0,1,1] a H K = o14 0 call [1,1,1,1,1,0,1,0,0,1,1] 0 a H (K .normal) := at_region (by kernel_rfl)
theorem n14_75 : g14 call k [1,1,1,1,1,0,1,0,0,1,0,0,0,1,1] a H K = K .normal a H := at_skip (by kernel_rfl)
theorem n14_76 : g14 call k [1,1,1,1,1,0,1,0,0,1,0,0,1] a H K = g14 call k [1,1,1,1,1,0,1,0,0,1,0,0,1,0] a H (hSeq (g14 call k [1,1,1,1,1,0,1,0,0,1,0,0,1,1]) K) := at_seq (by kernel_rfl)
theorem n14_77 : g14 call k [1,1,1,1,1,0,1,0,0,1,0,0,1,0] a H K = o14 0 call [1,1,1,1,1,0,1,0,0,1,0,0,1,0] 0 a H (K .normal) := at_region (by kernel_rfl)
theorem n14_78 : g14 call k [1,1,1,1,1,0,1,0,0,1,0,0,1,1] a H K = g14 call k [1,1,1,1,1,0,1,0,0,1,0,0,1,1,0] a H (hBlock 8 K) := at_block (by kernel_rfl)
theorem n14_79 : g14 call k [1,1,1,1,1,0,1,0,0,1,0,0,1,1,0] a H K = gLoop (g14 call k [1,1,1,1,1,0,1,0,0,1,0,0,1,1,0,0]) K k a H := at_loop (by kernel_rfl)
theorem n14_80 : g14 call k [1,1,1,1,1,0,1,0,0,0,1,1] a H K = K (.exit 6) a H := at_exit (by kernel_rfl)
theorem n14_81 : g14 call k [1,1,1,1,1,0,1,0,0,1,0,0,1,1,0,0] a H K = g14 call k [1,1,1,1,1,0,1,0,0,1,0,0,1,1,0,0,0] a H (hSeq (g14 call k [1,1,1,1,1,0,1,0,0,1,0,0,1,1,0,0,1]) K) := at_seq (by kernel_rfl)
theorem n14_82 : g14 call k [1,1,1,1,1,0,1,0,0,1,0,0,1,1,0,0,0] a H K = g14 call k [1,1,1,1,1,0,1,0,0,1,0,0,1,1,0,0,0,0] a H (hSeq (g14 call k [1,1,1,1,1,0,1,0,0,1,0,0,1,1,0,0,0,1]) K) := at_seq (by kernel_rfl)
theorem n14_83 : g14 call k [1,1,1,1,1,0,1,0,0,1,0,0,1,1,0,0,0,0] a H K = o14 0 call [1,1,1,1,1,0,1,0,0,1,0,0,1,1,0,0,0,0] 0 a H (K .normal) := at_region (by kernel_rfl)
theorem n14_84 : g14 call k [1,1,1,1,1,0,1,0,0,1,0,0,1,1,0,0,0,1] a H K = onBool (asB (GA.eval a (.tmp 65))) (g14 call k [1,1,1,1,1,0,1,0,0,1,0,0,1,1,0,0,0,1,0] a H K) (g14 call k [1,1,1,1,1,0,1,0,0,1,0,0,1,1,0,0,0,1,1] a H K) := at_cond (by kernel_rfl)
theorem n14_85 : g14 call k [1,1,1,1,1,0,1,0,0,1,0,0,1,1,0,0,0,1,0] a H K = K .normal a H := at_skip (by kernel_rfl)
theorem n14_86 : g14 call k [1,1,1,1,1,0,1,0,0,1,0,0,1,1,0,0,1] a H K = g14 call k [1,1,1,1,1,0,1,0,0,1,0,0,1,1,0,0,1,0] a H (hSeq (g14 call k [1,1,1,1,1,0,1,0,0,1,0,0,1,1,0,0,1,1]) K) := at_seq (by kernel_rfl)
theorem n14_87 : g14 call k [1,1,1,1,1,0,1,0,0,1,0,0,1,1,0,0,1,0] a H K = g14 call k [1,1,1,1,1,0,1,0,0,1,0,0,1,1,0,0,1,0,0] a H (hBlock 9 K) := at_block (by kernel_rfl)
theorem n14_88 : g14 call k [1,1,1,1,1,0,1,0,0,1,0,0,1,1,0,0,0,1,1] a H K = K (.exit 8) a H := at_exit (by kernel_rfl)
theorem n14_89 : g14 call k [1,1,1,1,1,1] a H K = g14 call k [1,1,1,1,1,1,0] a H (hSeq (g14 call k [1,1,1,1,1,1,1]) K) := at_seq (by kernel_rfl)
theorem n14_90 : g14 call k [1,1,1,1,1,1,0] a H K = o14 0 call [1,1,1,1,1,1,0] 0 a H (K .normal) := at_region (by kernel_rfl)
theorem n14_91 : g14 call k [1,1,1,1,1,1,1] a H K = g14 call k [1,1,1,1,1,1,1,0] a H (hSeq (g14 call k [1,1,1,1,1,1,1,1]) K) := at_seq (by kernel_rfl)
theorem n14_92 : g14 call k [1,1,1,1,1,1,1,0] a H K = g14 call k [1,1,1,1,1,1,1,0,0] a H (hSeq (g14 call k [1,1,1,1,1,1,1,0,1]) K) := at_seq (by kernel_rfl)
theorem n14_93 : g14 call k [1,1,1,1,1,1,1,0,0] a H K = o14 0 call [1,1,1,1,1,1,1,0,0] 0 a H (K .normal) := at_region (by kernel_rfl)
theorem n14_94 : g14 call k [1,1,1,1,1,1,1,0,1] a H K = g14 call k [1,1,1,1,1,1,1,0,1,0] a H (hBlock 10 K) := at_block (by kernel_rfl)
theorem n14_95 : g14 call k [1,1,1,1,1,1,1,0,1,0] a H K = gLoop (g14 call k [1,1,1,1,1,1,1,0,1,0,0]) K k a H := at_loop (by kernel_rfl)
theorem n14_96 : g14 call k [1,1,1,1,1,0,1,0,0,1,0,0,1,1,0,0,1,0,0] a H K = o14 1 call [1,1,1,1,1,0,1,0,0,1,0,0,1,1,0,0,1,0,0] 0 a H (K .normal) := at_region (by kernel_rfl)
theorem n14_97 : g14 call k [1,1,1,1,1,0,1,0,0,1,0,0,1,1,0,0,1,1] a H K = o14 0 call [1,1,1,1,1,0,1,0,0,1,0,0,1,1,0,0,1,1] 0 a H (K .normal) := at_region (by kernel_rfl)
theorem n14_98 : g14 call k [1,1,1,1,1,1,1,0,1,0,0] a H K = g14 call k [1,1,1,1,1,1,1,0,1,0,0,0] a H (hSeq (g14 call k [1,1,1,1,1,1,1,0,1,0,0,1]) K) := at_seq (by kernel_rfl)
theorem n14_99 : g14 call k [1,1,1,1,1,1,1,0,1,0,0,0] a H K = g14 call k [1,1,1,1,1,1,1,0,1,0,0,0,0] a H (hSeq (g14 call k [1,1,1,1,1,1,1,0,1,0,0,0,1]) K) := at_seq (by kernel_rfl)
theorem n14_100 : g14 call k [1,1,1,1,1,1,1,0,1,0,0,0,0] a H K = o14 0 call [1,1,1,1,1,1,1,0,1,0,0,0,0] 0 a H (K .normal) := at_region (by kernel_rfl)
theorem n14_101 : g14 call k [1,1,1,1,1,1,1,0,1,0,0,0,1] a H K = onBool (asB (GA.eval a (.tmp 86))) (g14 call k [1,1,1,1,1,1,1,0,1,0,0,0,1,0] a H K) (g14 call k [1,1,1,1,1,1,1,0,1,0,0,0,1,1] a H K) := at_cond (by kernel_rfl)
theorem n14_102 : g14 call k [1,1,1,1,1,1,1,0,1,0,0,0,1,0] a H K = K .normal a H := at_skip (by kernel_rfl)
theorem n14_103 : g14 call k [1,1,1,1,1,1,1,0,1,0,0,1] a H K = g14 call k [1,1,1,1,1,1,1,0,1,0,0,1,0] a H (hSeq (g14 call k [1,1,1,1,1,1,1,0,1,0,0,1,1]) K) := at_seq (by kernel_rfl)
theorem n14_104 : g14 call k [1,1,1,1,1,1,1,0,1,0,0,1,0] a H K = g14 call k [1,1,1,1,1,1,1,0,1,0,0,1,0,0] a H (hBlock 11 K) := at_block (by kernel_rfl)
theorem n14_105 : g14 call k [1,1,1,1,1,1,1,0,1,0,0,1,0,0] a H K = o14 0 call [1,1,1,1,1,1,1,0,1,0,0,1,0,0] 0 a H (K .normal) := at_region (by kernel_rfl)
theorem n14_106 : g14 call k [1,1,1,1,1,1,1,0,1,0,0,1,1] a H K = o14 0 call [1,1,1,1,1,1,1,0,1,0,0,1,1] 0 a H (K .normal) := at_region (by kernel_rfl)
theorem n14_107 : g14 call k [1,1,1,1,1,1,1,0,1,0,0,0,1,1] a H K = K (.exit 10) a H := at_exit (by kernel_rfl)
theorem n14_108 : g14 call k [1,1,1,1,1,1,1,1] a H K = g14 call k [1,1,1,1,1,1,1,1,0] a H (hSeq (g14 call k [1,1,1,1,1,1,1,1,1]) K) := at_seq (by kernel_rfl)
theorem n14_109 : g14 call k [1,1,1,1,1,1,1,1,0] a H K = o14 0 call [1,1,1,1,1,1,1,1,0] 0 a H (K .normal) := at_region (by kernel_rfl)
theorem n14_110 : g14 call k [1,1,1,1,1,1,1,1,1] a H K = K .ret a H := at_ret (by kernel_rfl)
theorem s14_0 : o14 0 call [0] 0 (FG 97 (fun _ => undef) [(0, p0)]) H K' =
  K' (FG 97 (fun _ => undef) [(2, (.int .i64 0)), (0, p0)]) H := by kernel_rfl
theorem s14_1 : o14 0 call [1,0] 0 (FG 97 (fun _ => undef) [(2, (.int .i64 0)), (0, p0)]) H K' =
  K' (FG 97 (fun _ => undef) [(3, (.slice none 0 0)), (2, (.int .i64 0)), (0, p0)]) H := by kernel_rfl
theorem s14_2 : o14 0 call [1,1,0,0] 0 (FG 97 (fun _ => undef) [(3, (.slice none 0 0)), (2, (.int .i64 0)), (0, p0)]) H K' =
  K' (FG 97 (fun _ => undef) [(4, (.int .i64 0)), (3, (.slice none 0 0)), (2, (.int .i64 0)), (0, p0)]) H := by kernel_rfl
theorem s14_3 : o14 0 call [1,1,0,1,0,0,0,0] 0 (FF 97 d) H K' =
  onV (oLen Tryd.prog 24 (d 0)) fun v1 =>
  onV ((oBin Tryd.prog .add 3 v1 (.int .i64 2)).filter closed) fun v2 =>
  onV ((oBin Tryd.prog .lss 3 (d 4) v2).filter closed) fun v3 =>
  K' (FG 97 d [(17, v3), (16, v2), (15, v1), (14, (d 0)), (13, (d 4))]) H := by kernel_rfl
theorem s14_4 : o14 0 call [1,1,0,1,0,0,1,0,0,0] 0 (FG 97 d [(17, v3), (16, v2), (15, v1), (14, (d 0)), (13, (d 4))]) H K' =
  K' (FG 97 d [(5, (.int .i64 0)), (17, v3), (16, v2), (15, v1), (14, (d 0)), (13, (d 4))]) H := by kernel_rfl
theorem s14_5 : o14 0 call [1,1,0,1,0,0,1,0,0,1,0,0] 0 (FG 97 d [(5, (.int .i64 0)), (17, v3), (16, v2), (15, v1), (14, (d 0)), (13, (d 4))]) H K' =
  onV (oLen Tryd.prog 24 (d 0)) fun v4 =>
  onV ((oBin Tryd.prog .lss 3 (d 4) v4).filter closed) fun v5 =>
  K' (FG 97 d [(23, v5), (22, v4), (21, (d 0)), (20, (d 4)), (5, (.int .i64 0)), (17, v3), (16, v2), (15, v1), (14, (d 0)), (13, (d 4))]) H := by kernel_rfl
theorem s14_6 : o14 0 call [1,1,0,1,0,0,1,0,0,1,0,1,0] 0 (FG 97 d [(23, v5), (22, v4), (21, (d 0)), (20, (d 4)), (5, (.int .i64 0)), (17, v3), (16, v2), (15, v1), (14, (d 0)), (13, (d 4))]) H K' =
  onV (oIndexAddr Tryd.prog 24 (d 0) (d 4)) fun v6 =>
  onV (gLoad Tryd.prog 5 v6 H) fun v7 =>
  onV ((oConvert Tryd.prog 5 3 v7).filter closed) fun v8 =>
  K' (FG 97 d [(5, v8), (28, v8), (27, v7), (26, v6), (25, (d 4)), (24, (d 0)), (23, v5), (22, v4), (21, (d 0)), (20, (d 4)), (5, (.int .i64 0)), (17, v3), (16, v2), (15, v1), (14, (d 0)), (13, (d 4))]) H := by kernel_rfl
theorem s14_7 : o14 0 call [1,1,0,1,0,0,1,0,0,1,1,0] 0 (FF 97 d) H K' =
  K' (FG 97 d [(6, (.int .i64 7))]) H := by kernel_rfl
theorem s14_8 : o14 0 call [1,1,1,0,0] 0 (FF 97 d) H K' =
  K' (FG 97 d [(7, (.int .i64 0))]) H := by kernel_rfl
theorem s14_9 : o14 0 call [1,1,0,1,0,0,1,0,0,1,1,1,0,0,0,0] 0 (FF 97 d) H K' =
  onV ((oBin Tryd.prog .geq 3 (d 6) (.int .i64 0)).filter closed) fun v1 =>
  K' (FG 97 d [(30, v1), (29, (d 6))]) H := by kernel_rfl
theorem s14_10 : o14 0 call [1,1,0,1,0,0,1,0,0,1,1,1,0,0,1,0,0] 0 (FG 97 d [(30, v1), (29, (d 6))]) H K' =
  onV ((oConvert Tryd.prog 3 67 (d 6)).filter closed) fun v2 =>
  onV ((oBin Tryd.prog .shr 3 (d 5) v2).filter closed) fun v3 =>
  onV ((oBin Tryd.prog .and 3 v3 (.int .i64 1)).filter closed) fun v4 =>
  onVH (gBuildSlice Tryd.prog 68 1 [(0, v4)] H) fun v5 H6 =>
  onVH (gAppend Tryd.prog 68 68 (d 3) v5 H6) fun v7 H8 =>
  K' (FG 97 d [(3, v7), (40, v7), (39, v5), (38, v4), (37, v3), (36, v2), (35, (d 6)), (34, (d 5)), (33, (d 3)), (30, v1), (29, (d 6))]) H8 := by kernel_rfl
theorem s14_11 : o14 0 call [1,1,0,1,0,0,1,0,0,1,1,1,0,0,1,1] 0 (FG 97 d [(3, v7), (40, v7), (39, v5), (38, v4), (37, v3), (36, v2), (35, (d 6)), (34, (d 5)), (33, (d 3)), (30, v1), (29, (d 6))]) H8 K' =
  onV ((oBin Tryd.prog .sub 3 (d 6) (.int .i64 1)).filter closed) fun v9 =>
  K' (FG 97 d [(6, v9), (32, v9), (31, (d 6)), (3, v7), (40, v7), (39, v5), (38, v4), (37, v3), (36, v2), (35, (d 6)), (34, (d 5)), (33, (d 3)), (30, v1), (29, (d 6))]) H8 := by kernel_rfl
theorem s14_12 : o14 0 call [1,1,0,1,0,0,1,1] 0 (FG 97 d [(30, v1), (29, (d 6))]) H K' =
  onV ((oBin Tryd.prog .add 3 (d 4) (.int .i64 1)).filter closed) fun v10 =>
  K' (FG 97 d [(4, v10), (19, v10), (18, (d 4)), (30, v1), (29, (d 6))]) H := by kernel_rfl
theorem s14_13 : o14 0 call [1,1,1,0,1,0,0,0,0] 0 (FF 97 d) H K' =
  onV ((oBin Tryd.prog .lss 3 (d 7) (.int .i64 16)).filter closed) fun v1 =>
  K' (FG 97 d [(42, v1), (41, (d 7))]) H := by kernel_rfl
theorem s14_14 : o14 0 call [1,1,1,0,1,0,0,1,0,0] 0 (FG 97 d [(42, v1), (41, (d 7))]) H K' =
  onV (oIndexAddr Tryd.prog 68 (d 3) (d 7)) fun v2 =>
  onV (gLoad Tryd.prog 3 v2 H) fun v3 =>
  onV ((oBin Tryd.prog .xor 3 v3 (.int .i64 1)).filter closed) fun v4 =>
  onV (oIndexAddr Tryd.prog 68 (d 3) (d 7)) fun v5 =>
  onH (gStore Tryd.prog 3 v5 v4 H) fun H6 =>
  K' (FG 97 d [(50, v5), (49, v4), (48, v3), (47, v2), (46, (d 7)), (45, (d 3)), (42, v1), (41, (d 7))]) H6 := by kernel_rfl
theorem s14_15 : o14 0 call [1,1,1,0,1,0,0,1,1] 0 (FG 97 d [(50, v5), (49, v4), (48, v3), (47, v2), (46, (d 7)), (45, (d 3)), (42, v1), (41, (d 7))]) H6 K' =
  onV ((oBin Tryd.prog .add 3 (d 7) (.int .i64 1)).filter closed) fun v7 =>
  K' (FG 97 d [(7, v7), (44, v7), (43, (d 7)), (50, v5), (49, v4), (48, v3), (47, v2), (46, (d 7)), (45, (d 3)), (42, v1), (41, (d 7))]) H6 := by kernel_rfl
theorem s14_16 : o14 0 call [1,1,1,1,0] 0 (FF 97 d) H K' =
  onVH (gBuildSlice Tryd.prog 68 17 [(0, (.int .i64 1)), (1, (.int .i64 0)), (2, (.int .i64 0)), (3, (.int .i64 0)), (4, (.int .i64 1)), (5, (.int .i64 0)), (6, (.int .i64 0)), (7, (.int .i64 0)), (8, (.int .i64 0)), (9, (.int .i64 0)), (10, (.int .i64 0)), (11, (.int .i64 1)), (12, (.int .i64 0)), (13, (.int .i64 0)), (14, (.int .i64 0)), (15, (.int .i64 0)), (16, (.int .i64 1))] H) fun v1 H2 =>
  K' (FG 97 d [(8, v1), (51, v1)]) H2 := by kernel_rfl
theorem s14_17 : o14 0 call [1,1,1,1,1,0,0] 0 (FG 97 d [(8, v1), (51, v1)]) H2 K' =
  K' (FG 97 d [(9, (.int .i64 0)), (8, v1), (51, v1)]) H2 := by kernel_rfl
theorem s14_18 : o14 0 call [1,1,1,1,1,0,1,0,0,0,0] 0 (FF 97 d) H K' =
  onV ((oBin Tryd.prog .add 3 (d 9) (.int .i64 16)).filter closed) fun v1 =>
  onV (oLen Tryd.prog 68 (d 3)) fun v2 =>
  onV ((oBin Tryd.prog .lss 3 v1 v2).filter closed) fun v3 =>
  K' (FG 97 d [(56, v3), (55, v2), (54, (d 3)), (53, v1), (52, (d 9))]) H := by kernel_rfl
theorem s14_19 : o14 0 call [1,1,1,1,1,0,1,0,0,1,0,0,0,0] 0 (FG 97 d [(56, v3), (55, v2), (54, (d 3)), (53, v1), (52, (d 9))]) H K' =
  onV (oIndexAddr Tryd.prog 68 (d 3) (d 9)) fun v4 =>
  onV (gLoad Tryd.prog 3 v4 H) fun v5 =>
  onV ((oBin Tryd.prog .eql 3 v5 (.int .i64 0)).filter closed) fun v6 =>
  K' (FG 97 d [(63, v6), (62, v5), (61, v4), (60, (d 9)), (59, (d 3)), (56, v3), (55, v2), (54, (d 3)), (53, v1), (52, (d 9))]) H := by kernel_rfl
theorem s14_20 : o14 0 call [1,1,1,1,1,0,1,0,0,1,1] 0 (FG 97 d [(63, v6), (62, v5), (61, v4), (60, (d 9)), (59, (d 3)), (56, v3), (55, v2), (54, (d 3)), (53, v1), (52, (d 9))]) H K' =
  onV ((oBin Tryd.prog .add 3 (d 9) (.int .i64 1)).filter closed) fun v7 =>
  K' (FG 97 d [(9, v7), (58, v7), (57, (d 9)), (63, v6), (62, v5), (61, v4), (60, (d 9)), (59, (d 3)), (56, v3), (55, v2), (54, (d 3)), (53, v1), (52, (d 9))]) H := by kernel_rfl
theorem s14_21 : o14 0 call [1,1,1,1,1,0,1,0,0,1,0,0,1,0] 0 (FG 97 d [(63, v6), (62, v5), (61, v4), (60, (d 9)), (59, (d 3)), (56, v3), (55, v2), (54, (d 3)), (53, v1), (52, (d 9))]) H K' =
  K' (FG 97 d [(10, (.int .i64 0)), (63, v6), (62, v5), (61, v4), (60, (d 9)), (59, (d 3)), (56, v3), (55, v2), (54, (d 3)), (53, v1), (52, (d 9))]) H := by kernel_rfl
theorem s14_22 : o14 0 call [1,1,1,1,1,0,1,0,0,1,0,0,1,1,0,0,0,0] 0 (FF 97 d) H K' =
  onV ((oBin Tryd.prog .lss 3 (d 10) (.int .i64 17)).filter closed) fun v1 =>
  K' (FG 97 d [(65, v1), (64, (d 10))]) H := by kernel_rfl
theorem s14_23 : o14 0 call [1,1,1,1,1,0,1,0,0,1,1] 0 (FG 97 d [(65, v1), (64, (d 10))]) H K' =
  onV ((oBin Tryd.prog .add 3 (d 9) (.int .i64 1)).filter closed) fun v2 =>
  K' (FG 97 d [(9, v2), (58, v2), (57, (d 9)), (65, v1), (64, (d 10))]) H := by kernel_rfl
theorem s14_24 : o14 0 call [1,1,1,1,1,1,0] 0 (FF 97 d) H K' =
  K' (FG 97 d [(11, (.int .i64 0))]) H := by kernel_rfl
theorem s14_25 : o14 0 call [1,1,1,1,1,1,1,0,0] 0 (FG 97 d [(11, (.int .i64 0))]) H K' =
  onV (oLen Tryd.prog 68 (d 3)) fun v1 =>
  onV ((oBin Tryd.prog .sub 3 v1 (.int .i64 16)).filter closed) fun v2 =>
  K' (FG 97 d [(12, v2), (82, v2), (81, v1), (80, (d 3)), (11, (.int .i64 0))]) H := by kernel_rfl
theorem s14_26 : o14 1 call [1,1,1,1,1,0,1,0,0,1,0,0,1,1,0,0,1,0,0] 0 (FF 97 d) H K' =
  onV ((oBin Tryd.prog .add 3 (d 9) (d 10)).filter closed) fun v1 =>
  onV (oIndexAddr Tryd.prog 68 (d 3) v1) fun v2 =>
  onV (gLoad Tryd.prog 3 v2 H) fun v3 =>
  onV (oIndexAddr Tryd.prog 68 (d 8) (d 10)) fun v4 =>
  onV (gLoad Tryd.prog 3 v4 H) fun v5 =>
  onV ((oBin Tryd.prog .xor 3 v3 v5).filter closed) fun v6 =>
  onV (oIndexAddr Tryd.prog 68 (d 3) v1) fun v7 =>
  onH (gStore Tryd.prog 3 v7 v6 H) fun H8 =>
  K' (FG 97 d [(79, v7), (78, v6), (77, v5), (76, v4), (75, (d 10)), (74, (d 8)), (73, v3), (72, v2), (71, v1), (70, (d 10)), (69, (d 9)), (68, (d 3))]) H8 := by kernel_rfl
theorem s14_27 : o14 0 call [1,1,1,1,1,0,1,0,0,1,0,0,1,1,0,0,1,1] 0 (FG 97 d [(79, v7), (78, v6), (77, v5), (76, v4), (75, (d 10)), (74, (d 8)), (73, v3), (72, v2), (71, v1), (70, (d 10)), (69, (d 9)), (68, (d 3))]) H8 K' =
  onV ((oBin Tryd.prog .add 3 (d 10) (.int .i64 1)).filter closed) fun v9 =>
  K' (FG 97 d [(10, v9), (67, v9), (66, (d 10)), (79, v7), (78, v6), (77, v5), (76, v4), (75, (d 10)), (74, (d 8)), (73, v3), (72, v2), (71, v1), (70, (d 10)), (69, (d 9)), (68, (d 3))]) H8 := by kernel_rfl
theorem s14_28 : o14 0 call [1,1,1,1,1,1,1,0,1,0,0,0,0] 0 (FF 97 d) H K' =
  onV (oLen Tryd.prog 68 (d 3)) fun v1 =>
  onV ((oBin Tryd.prog .lss 3 (d 12) v1).filter closed) fun v2 =>
  K' (FG 97 d [(86, v2), (85, v1), (84, (d 3)), (83, (d 12))]) H := by kernel_rfl
theorem s14_29 : o14 0 call [1,1,1,1,1,1,1,0,1,0,0,1,0,0] 0 (FG 97 d [(86, v2), (85, v1), (84, (d 3)), (83, (d 12))]) H K' =
  onV ((oBin Tryd.prog .mul 3 (.int .i64 2) (d 11)).filter closed) fun v3 =>
  onV (oIndexAddr Tryd.prog 68 (d 3) (d 12)) fun v4 =>
  onV (gLoad Tryd.prog 3 v4 H) fun v5 =>
  onV ((oBin Tryd.prog .add 3 v3 v5).filter closed) fun v6 =>
  K' (FG 97 d [(11, v6), (95, v6), (94, v5), (93, v4), (92, (d 12)), (91, (d 3)), (90, v3), (89, (d 11)), (86, v2), (85, v1), (84, (d 3)), (83, (d 12))]) H := by kernel_rfl
theorem s14_30 : o14 0 call [1,1,1,1,1,1,1,0,1,0,0,1,1] 0 (FG 97 d [(11, v6), (95, v6), (94, v5), (93, v4), (92, (d 12)), (91, (d 3)), (90, v3), (89, (d 11)), (86, v2), (85, v1), (84, (d 3)), (83, (d 12))]) H K' =
  onV ((oBin Tryd.prog .add 3 (d 12) (.int .i64 1)).filter closed) fun v7 =>
  K' (FG 97 d [(12, v7), (88, v7), (87, (d 12)), (11, v6), (95, v6), (94, v5), (93, v4), (92, (d 12)), (91, (d 3)), (90, v3), (89, (d 11)), (86, v2), (85, v1), (84, (d 3)), (83, (d 12))]) H := by kernel_rfl
theorem s14_31 : o14 0 call [1,1,1,1,1,1,1,1,0] 0 (FG 97 d [(86, v2), (85, v1), (84, (d 3)), (83, (d 12))]) H K' =
  K' (FG 97 d [(2, (d 11)), (96, (d 11)), (86, v2), (85, v1), (84, (d 3)), (83, (d 12))]) H := by kernel_rfl
def f14_l9_P (ag : AG) (sg : Sg5) : Prop := ∀ (d : Nat → Value) (H : GH), ag (FF 97 d) H = sg (d 0) (d 3) (d 4) (d 5) (d 6) H
theorem f14_l9_at {ag : AG} {sg : Sg5} (h : f14_l9_P ag sg) : ag (FF 97 d) H = sg (d 0) (d 3) (d 4) (d 5) (d 6) H := h d H
def f14_l27_P (ag : AG) (sg : Sg3) : Prop := ∀ (d : Nat → Value) (H : GH), ag (FF 97 d) H = sg (d 3) (d 11) (d 12) H
theorem f14_l27_at {ag : AG} {sg : Sg3} (h : f14_l27_P ag sg) : ag (FF 97 d) H = sg (d 3) (d 11) (d 12) H := h d H
def f14_l22_P (ag : AG) (sg : Sg4) : Prop := ∀ (d : Nat → Value) (H : GH), ag (FF 97 d) H = sg (d 3) (d 8) (d 9) (d 10) H
theorem f14_l22_at {ag : AG} {sg : Sg4} (h : f14_l22_P ag sg) : ag (FF 97 d) H = sg (d 3) (d 8) (d 9) (d 10) H := h d H
def f14_l18_P (ag : AG) (sg : Sg3) : Prop := ∀ (d : Nat → Value) (H : GH), ag (FF 97 d) H = sg (d 3) (d 8) (d 9) H
theorem f14_l18_at {ag : AG} {sg : Sg3} (h : f14_l18_P ag sg) : ag (FF 97 d) H = sg (d 3) (d 8) (d 9) H := h d H
def f14_l13_P (ag : AG) (sg : Sg2) : Prop := ∀ (d : Nat → Value) (H : GH), ag (FF 97 d) H = sg (d 3) (d 7) H
theorem f14_l13_at {ag : AG} {sg : Sg2} (h : f14_l13_P ag sg) : ag (FF 97 d) H = sg (d 3) (d 7) H := h d H
def f14_l3_P (ag : AG) (sg : Sg3) : Prop := ∀ (d : Nat → Value) (H : GH), ag (FF 97 d) H = sg (d 0) (d 3) (d 4) H
theorem f14_l3_at {ag : AG} {sg : Sg3} (h : f14_l3_P ag sg) : ag (FF 97 d) H = sg (d 0) (d 3) (d 4) H := h d H
noncomputable def f14_l9b (call : Handle) (k : Nat) (sg_l3 : Sg3) (sg_l9 : Sg5) (x0 x3 x4 x5 x6 : Value) (H : GH) : M (Value × GH) :=
  onV ((oBin Tryd.prog .geq 3 x6 (.int .i64 0)).filter closed) fun v1 =>
  onBool (asB v1)
  (onV ((oConvert Tryd.prog 3 67 x6).filter closed) fun v2 =>
  onV ((oBin Tryd.prog .shr 3 x5 v2).filter closed) fun v3 =>
  onV ((oBin Tryd.prog .and 3 v3 (.int .i64 1)).filter closed) fun v4 =>
  onVH (gBuildSlice Tryd.prog 68 1 [(0, v4)] H) fun v5 H6 =>
  onVH (gAppend Tryd.prog 68 68 x3 v5 H6) fun v7 H8 =>
  onV ((oBin Tryd.prog .sub 3 x6 (.int .i64 1)).filter closed) fun v9 =>
  (sg_l9 x0 v7 x4 x5 v9 H8))
  (onV ((oBin Tryd.prog .add 3 x4 (.int .i64 1)).filter closed) fun v10 =>
  (sg_l3 x0 x3 v10 H))
theorem f14_l9b_eq (call : Handle) (k : Nat) (ag_l3 : AG) (sg_l3 : Sg3) (h_l3 : f14_l3_P ag_l3 sg_l3) (ag_l9 : AG) (sg_l9 : Sg5) (h_l9 : f14_l9_P ag_l9 sg_l9) : g14 call k [1,1,0,1,0,0,1,0,0,1,1,1,0,0] (FF 97 d) H (hLoop ag_l9 (hBlock 2 (hBlock 1 (hSeq (g14 call k [1,1,0,1,0,0,1,1]) (hLoop ag_l3 (hBlock 0 (hSeq (g14 call k [1,1,1]) (hFin Tryd.prog Tryd.f14)))))))) = f14_l9b call k sg_l3 sg_l9 (d 0) (d 3) (d 4) (d 5) (d 6) H := by
  unfold f14_l9b
  rw [n14_34]
  rw [n14_35]
  rw [n14_36]
  rw [s14_9]
  refine onV_c fun v1 => ?_
  rw [hSeq_n]
  rw [n14_37]
  refine onBool_cc (by kernel_rfl) ?_ ?_
  · rw [n14_38]
    rw [hSeq_n]
    rw [n14_39]
    rw [n14_40]
    rw [n14_41]
    rw [s14_10]
    refine onV_c fun v2 => ?_
    refine onV_c fun v3 => ?_
    refine onV_c fun v4 => ?_
    refine onVH_c fun v5 H6 => ?_
    refine onVH_c fun v7 H8 => ?_
    rw [hBlock_n]
    rw [hSeq_n]
    rw [n14_42]
    rw [s14_11]
    refine onV_c fun v9 => ?_
    rw [hLoop_n]
    generalize e : (FG 97 d [(6, v9), (32, v9), (31, (d 6)), (3, v7), (40, v7), (39, v5), (38, v4), (37, v3), (36, v2), (35, (d 6)), (34, (d 5)), (33, (d 3)), (30, v1), (29, (d 6))]) = a
    rw [show a = (FF 97 (gf a)) from (FF_gf (by subst e; exact FG_len)).symm]
    exact (f14_l9_at (d := gf a) h_l9).trans (by subst e; kernel_rfl)
  · rw [n14_43]
    rw [hSeq_e, hLoop_e, hBlock_hit]
    rw [hBlock_n]
    rw [hSeq_n]
    rw [n14_44]
    rw [s14_12]
    refine onV_c fun v10 => ?_
    rw [hLoop_n]
    generalize e : (FG 97 d [(4, v10), (19, v10), (18, (d 4)), (30, v1), (29, (d 6))]) = a
    rw [show a = (FF 97 (gf a)) from (FF_gf (by subst e; exact FG_len)).symm]
    exact (f14_l3_at (d := gf a) h_l3).trans (by subst e; kernel_rfl)
noncomputable def f14_l9 (call : Handle) (k : Nat) (sg_l3 : Sg3) : Nat → Value → Value → Value → Value → Value → GH → M (Value × GH)
  | 0, _, _, _, _, _, _ => none
  | r + 1, x0, x3, x4, x5, x6, H => f14_l9b call k sg_l3 (f14_l9 call k sg_l3 r) x0 x3 x4 x5 x6 H
theorem f14_l9_eq (call : Handle) (k : Nat) (ag_l3 : AG) (sg_l3 : Sg3) (h_l3 : f14_l3_P ag_l3 sg_l3) : ∀ (r : Nat), f14_l9_P (gLoop (g14 call k [1,1,0,1,0,0,1,0,0,1,1,1,0,0]) (hBlock 2 (hBlock 1 (hSeq (g14 call k [1,1,0,1,0,0,1,1]) (hLoop ag_l3 (hBlock 0 (hSeq (g14 call k [1,1,1]) (hFin Tryd.prog Tryd.f14))))))) r) (f14_l9 call k sg_l3 r) := by
  intro r
  induction r with
  | zero => unfold f14_l9_P; intros; rfl
  | succ r ih => unfold f14_l9_P; intros; exact f14_l9b_eq call k ag_l3 sg_l3 h_l3 _ _ ih
noncomputable def f14_r8 (call : Handle) (k : Nat) (sg_l3 : Sg3) (x0 x3 x4 x5 : Value) (H : GH) : M (Value × GH) :=
  (f14_l9 call k (sg_l3) k x0 x3 x4 x5 (.int .i64 7) H)
theorem f14_r8_eq (call : Handle) (k : Nat) (ag_l3 : AG) (sg_l3 : Sg3) (h_l3 : f14_l3_P ag_l3 sg_l3) : g14 call k [1,1,0,1,0,0,1,0,0,1,1] (FF 97 d) H (hBlock 1 (hSeq (g14 call k [1,1,0,1,0,0,1,1]) (hLoop ag_l3 (hBlock 0 (hSeq (g14 call k [1,1,1]) (hFin Tryd.prog Tryd.f14)))))) = f14_r8 call k sg_l3 (d 0) (d 3) (d 4) (d 5) H := by
  unfold f14_r8
  rw [n14_25]
  rw [n14_26]
  rw [s14_7]
  rw [hSeq_n]
  rw [n14_27]
  rw [n14_28]
  generalize e : (FG 97 d [(6, (.int .i64 7))]) = a
  rw [show a = (FF 97 (gf a)) from (FF_gf (by subst e; exact FG_len)).symm]
  exact (f14_l9_at (d := gf a) (f14_l9_eq call k ag_l3 sg_l3 h_l3 k)).trans (by subst e; kernel_rfl)
noncomputable def f14_l27b (call : Handle) (k : Nat) (sg_l27 : Sg3) (x3 x11 x12 : Value) (H : GH) : M (Value × GH) :=
  onV (oLen Tryd.prog 68 x3) fun v1 =>
  onV ((oBin Tryd.prog .lss 3 x12 v1).filter closed) fun v2 =>
  onBool (asB v2)
  (onV ((oBin Tryd.prog .mul 3 (.int .i64 2) x11).filter closed) fun v3 =>
  onV (oIndexAddr Tryd.prog 68 x3 x12) fun v4 =>
  onV (gLoad Tryd.prog 3 v4 H) fun v5 =>
  onV ((oBin Tryd.prog .add 3 v3 v5).filter closed) fun v6 =>
  onV ((oBin Tryd.prog .add 3 x12 (.int .i64 1)).filter closed) fun v7 =>
  (sg_l27 x3 v6 v7 H))
  (some [(x11, H)])
theorem f14_l27b_eq (call : Handle) (k : Nat) (ag_l27 : AG) (sg_l27 : Sg3) (h_l27 : f14_l27_P ag_l27 sg_l27) : g14 call k [1,1,1,1,1,1,1,0,1,0,0] (FF 97 d) H (hLoop ag_l27 (hBlock 10 (hSeq (g14 call k [1,1,1,1,1,1,1,1]) (hFin Tryd.prog Tryd.f14)))) = f14_l27b call k sg_l27 (d 3) (d 11) (d 12) H := by
  unfold f14_l27b
  rw [n14_98]
  rw [n14_99]
  rw [n14_100]
  rw [s14_28]
  refine onV_c fun v1 => ?_
  refine onV_c fun v2 => ?_
  rw [hSeq_n]
  rw [n14_101]
  refine onBool_cc (by kernel_rfl) ?_ ?_
  · rw [n14_102]
    rw [hSeq_n]
    rw [n14_103]
    rw [n14_104]
    rw [n14_105]
    rw [s14_29]
    refine onV_c fun v3 => ?_
    refine onV_c fun v4 => ?_
    refine onV_c fun v5 => ?_
    refine onV_c fun v6 => ?_
    rw [hBlock_n]
    rw [hSeq_n]
    rw [n14_106]
    rw [s14_30]
    refine onV_c fun v7 => ?_
    rw [hLoop_n]
    generalize e : (FG 97 d [(12, v7), (88, v7), (87, (d 12)), (11, v6), (95, v6), (94, v5), (93, v4), (92, (d 12)), (91, (d 3)), (90, v3), (89, (d 11)), (86, v2), (85, v1), (84, (d 3)), (83, (d 12))]) = a
    rw [show a = (FF 97 (gf a)) from (FF_gf (by subst e; exact FG_len)).symm]
    exact (f14_l27_at (d := gf a) h_l27).trans (by subst e; kernel_rfl)
  · rw [n14_107]
    rw [hSeq_e, hLoop_e, hBlock_hit]
    rw [hSeq_n]
    rw [n14_108]
    rw [n14_109]
    rw [s14_31]
    rw [hSeq_n]
    rw [n14_110]
    kernel_rfl
noncomputable def f14_l27 (call : Handle) (k : Nat) : Nat → Value → Value → Value → GH → M (Value × GH)
  | 0, _, _, _, _ => none
  | r + 1, x3, x11, x12, H => f14_l27b call k (f14_l27 call k r) x3 x11 x12 H
theorem f14_l27_eq (call : Handle) (k : Nat) : ∀ (r : Nat), f14_l27_P (gLoop (g14 call k [1,1,1,1,1,1,1,0,1,0,0]) (hBlock 10 (hSeq (g14 call k [1,1,1,1,1,1,1,1]) (hFin Tryd.prog Tryd.f14))) r) (f14_l27 call k r) := by
  intro r
  induction r with
  | zero => unfold f14_l27_P; intros; rfl
  | succ r ih => unfold f14_l27_P; intros; exact f14_l27b_eq call k _ _ ih
noncomputable def f14_r25 (call : Handle) (k : Nat) (x3 : Value) (H : GH) : M (Value × GH) :=
  onV (oLen Tryd.prog 68 x3) fun v1 =>
  onV ((oBin Tryd.prog .sub 3 v1 (.int .i64 16)).filter closed) fun v2 =>
  (f14_l27 call k k x3 (.int .i64 0) v2 H)
theorem f14_r25_eq (call : Handle) (k : Nat) : g14 call k [1,1,1,1,1,1] (FF 97 d) H (hFin Tryd.prog Tryd.f14) = f14_r25 call k (d 3) H := by
  unfold f14_r25
  rw [n14_89]
  rw [n14_90]
  rw [s14_24]
  rw [hSeq_n]
  rw [n14_91]
  rw [n14_92]
  rw [n14_93]
  rw [s14_25]
  refine onV_c fun v1 => ?_
  refine onV_c fun v2 => ?_
  rw [hSeq_n]
  rw [n14_94]
  rw [n14_95]
  generalize e : (FG 97 d [(12, v2), (82, v2), (81, v1), (80, (d 3)), (11, (.int .i64 0))]) = a
  rw [show a = (FF 97 (gf a)) from (FF_gf (by subst e; exact FG_len)).symm]
  exact (f14_l27_at (d := gf a) (f14_l27_eq call k k)).trans (by subst e; kernel_rfl)
noncomputable def f14_r24 (call : Handle) (k : Nat) (sg_l18 : Sg3) (sg_l22 : Sg4) (x3 x8 x9 x10 : Value) (H : GH) : M (Value × GH) :=
  onV ((oBin Tryd.prog .add 3 x9 x10).filter closed) fun v1 =>
  onV (oIndexAddr Tryd.prog 68 x3 v1) fun v2 =>
  onV (gLoad Tryd.prog 3 v2 H) fun v3 =>
  onV (oIndexAddr Tryd.prog 68 x8 x10) fun v4 =>
  onV (gLoad Tryd.prog 3 v4 H) fun v5 =>
  onV ((oBin Tryd.prog .xor 3 v3 v5).filter closed) fun v6 =>
  onV (oIndexAddr Tryd.prog 68 x3 v1) fun v7 =>
  onH (gStore Tryd.prog 3 v7 v6 H) fun H8 =>
  onV ((oBin Tryd.prog .add 3 x10 (.int .i64 1)).filter closed) fun v9 =>
  (sg_l22 x3 x8 x9 v9 H8)
theorem f14_r24_eq (call : Handle) (k : Nat) (ag_l18 : AG) (sg_l18 : Sg3) (h_l18 : f14_l18_P ag_l18 sg_l18) (ag_l22 : AG) (sg_l22 : Sg4) (h_l22 : f14_l22_P ag_l22 sg_l22) : g14 call k [1,1,1,1,1,0,1,0,0,1,0,0,1,1,0,0,1,0,0] (FF 97 d) H (hBlock 9 (hSeq (g14 call k [1,1,1,1,1,0,1,0,0,1,0,0,1,1,0,0,1,1]) (hLoop ag_l22 (hBlock 8 (hBlock 7 (hSeq (g14 call k [1,1,1,1,1,0,1,0,0,1,1]) (hLoop ag_l18 (hBlock 6 (hSeq (g14 call k [1,1,1,1,1,1]) (hFin Tryd.prog Tryd.f14)))))))))) = f14_r24 call k sg_l18 sg_l22 (d 3) (d 8) (d 9) (d 10) H := by
  unfold f14_r24
  rw [n14_96]
  rw [s14_26]
  refine onV_c fun v1 => ?_
  refine onV_c fun v2 => ?_
  refine onV_c fun v3 => ?_
  refine onV_c fun v4 => ?_
  refine onV_c fun v5 => ?_
  refine onV_c fun v6 => ?_
  refine onV_c fun v7 => ?_
  refine onH_c fun H8 => ?_
  rw [hBlock_n]
  rw [hSeq_n]
  rw [n14_97]
  rw [s14_27]
  refine onV_c fun v9 => ?_
  rw [hLoop_n]
  generalize e : (FG 97 d [(10, v9), (67, v9), (66, (d 10)), (79, v7), (78, v6), (77, v5), (76, v4), (75, (d 10)), (74, (d 8)), (73, v3), (72, v2), (71, v1), (70, (d 10)), (69, (d 9)), (68, (d 3))]) = a
  rw [show a = (FF 97 (gf a)) from (FF_gf (by subst e; exact FG_len)).symm]
  exact (f14_l22_at (d := gf a) h_l22).trans (by subst e; kernel_rfl)
noncomputable def f14_l22b (call : Handle) (k : Nat) (sg_l18 : Sg3) (sg_l22 : Sg4) (x3 x8 x9 x10 : Value) (H : GH) : M (Value × GH) :=
  onV ((oBin Tryd.prog .lss 3 x10 (.int .i64 17)).filter closed) fun v1 =>
  onBool (asB v1)
  ((f14_r24 call k (sg_l18) (sg_l22) x3 x8 x9 x10 H))
  (onV ((oBin Tryd.prog .add 3 x9 (.int .i64 1)).filter closed) fun v2 =>
  (sg_l18 x3 x8 v2 H))
theorem f14_l22b_eq (call : Handle) (k : Nat) (ag_l18 : AG) (sg_l18 : Sg3) (h_l18 : f14_l18_P ag_l18 sg_l18) (ag_l22 : AG) (sg_l22 : Sg4) (h_l22 : f14_l22_P ag_l22 sg_l22) : g14 call k [1,1,1,1,1,0,1,0,0,1,0,0,1,1,0,0] (FF 97 d) H (hLoop ag_l22 (hBlock 8 (hBlock 7 (hSeq (g14 call k [1,1,1,1,1,0,1,0,0,1,1]) (hLoop ag_l18 (hBlock 6 (hSeq (g14 call k [1,1,1,1,1,1]) (hFin Tryd.prog Tryd.f14)))))))) = f14_l22b call k sg_l18 sg_l22 (d 3) (d 8) (d 9) (d 10) H := by
  unfold f14_l22b
  rw [n14_81]
  rw [n14_82]
  rw [n14_83]
  rw [s14_22]
  refine onV_c fun v1 => ?_
  rw [hSeq_n]
  rw [n14_84]
  refine onBool_cc (by kernel_rfl) ?_ ?_
  · rw [n14_85]
    rw [hSeq_n]
    rw [n14_86]
    rw [n14_87]
    generalize e : (FG 97 d [(65, v1), (64, (d 10))]) = a
    rw [show a = (FF 97 (gf a)) from (FF_gf (by subst e; exact FG_len)).symm]
    exact (f14_r24_eq (d := gf a) call k ag_l18 sg_l18 h_l18 ag_l22 sg_l22 h_l22).trans (by subst e; kernel_rfl)
  · rw [n14_88]
    rw [hSeq_e, hLoop_e, hBlock_hit]
    rw [hBlock_n]
    rw [hSeq_n]
    rw [n14_74]
    rw [s14_23]
    refine onV_c fun v2 => ?_
    rw [hLoop_n]
    generalize e : (FG 97 d [(9, v2), (58, v2), (57, (d 9)), (65, v1), (64, (d 10))]) = a
    rw [show a = (FF 97 (gf a)) from (FF_gf (by subst e; exact FG_len)).symm]
    exact (f14_l18_at (d := gf a) h_l18).trans (by subst e; kernel_rfl)
noncomputable def f14_l22 (call : Handle) (k : Nat) (sg_l18 : Sg3) : Nat → Value → Value → Value → Value → GH → M (Value × GH)
  | 0, _, _, _, _, _ => none
  | r + 1, x3, x8, x9, x10, H => f14_l22b call k sg_l18 (f14_l22 call k sg_l18 r) x3 x8 x9 x10 H
theorem f14_l22_eq (call : Handle) (k : Nat) (ag_l18 : AG) (sg_l18 : Sg3) (h_l18 : f14_l18_P ag_l18 sg_l18) : ∀ (r : Nat), f14_l22_P (gLoop (g14 call k [1,1,1,1,1,0,1,0,0,1,0,0,1,1,0,0]) (hBlock 8 (hBlock 7 (hSeq (g14 call k [1,1,1,1,1,0,1,0,0,1,1]) (hLoop ag_l18 (hBlock 6 (hSeq (g14 call k [1,1,1,1,1,1]) (hFin Tryd.prog Tryd.f14))))))) r) (f14_l22 call k sg_l18 r) := by
  intro r
  induction r with
  | zero => unfold f14_l22_P; intros; rfl
  | succ r ih => unfold f14_l22_P; intros; exact f14_l22b_eq call k ag_l18 sg_l18 h_l18 _ _ ih
noncomputable def f14_l18b (call : Handle) (k : Nat) (sg_l18 : Sg3) (x3 x8 x9 : Value) (H : GH) : M (Value × GH) :=
  onV ((oBin Tryd.prog .add 3 x9 (.int .i64 16)).filter closed) fun v1 =>
  onV (oLen Tryd.prog 68 x3) fun v2 =>
  onV ((oBin Tryd.prog .lss 3 v1 v2).filter closed) fun v3 =>
  onBool (asB v3)
  (onV (oIndexAddr Tryd.prog 68 x3 x9) fun v4 =>
  onV (gLoad Tryd.prog 3 v4 H) fun v5 =>
  onV ((oBin Tryd.prog .eql 3 v5 (.int .i64 0)).filter closed) fun v6 =>
  onBool (asB v6)
  (onV ((oBin Tryd.prog .add 3 x9 (.int .i64 1)).filter closed) fun v7 =>
  (sg_l18 x3 x8 v7 H))
  ((f14_l22 call k (sg_l18) k x3 x8 x9 (.int .i64 0) H)))
  ((f14_r25 call k x3 H))
theorem f14_l18b_eq (call : Handle) (k : Nat) (ag_l18 : AG) (sg_l18 : Sg3) (h_l18 : f14_l18_P ag_l18 sg_l18) : g14 call k [1,1,1,1,1,0,1,0,0] (FF 97 d) H (hLoop ag_l18 (hBlock 6 (hSeq (g14 call k [1,1,1,1,1,1]) (hFin Tryd.prog Tryd.f14)))) = f14_l18b call k sg_l18 (d 3) (d 8) (d 9) H := by
  unfold f14_l18b
  rw [n14_62]
  rw [n14_63]
  rw [n14_64]
  rw [s14_18]
  refine onV_c fun v1 => ?_
  refine onV_c fun v2 => ?_
  refine onV_c fun v3 => ?_
  rw [hSeq_n]
  rw [n14_65]
  refine onBool_cc (by kernel_rfl) ?_ ?_
  · rw [n14_66]
    rw [hSeq_n]
    rw [n14_67]
    rw [n14_68]
    rw [n14_69]
    rw [n14_70]
    rw [n14_71]
    rw [s14_19]
    refine onV_c fun v4 => ?_
    refine onV_c fun v5 => ?_
    refine onV_c fun v6 => ?_
    rw [hSeq_n]
    rw [n14_72]
    refine onBool_cc (by kernel_rfl) ?_ ?_
    · rw [n14_73]
      rw [hSeq_e, hBlock_hit]
      rw [hSeq_n]
      rw [n14_74]
      rw [s14_20]
      refine onV_c fun v7 => ?_
      rw [hLoop_n]
      generalize e : (FG 97 d [(9, v7), (58, v7), (57, (d 9)), (63, v6), (62, v5), (61, v4), (60, (d 9)), (59, (d 3)), (56, v3), (55, v2), (54, (d 3)), (53, v1), (52, (d 9))]) = a
      rw [show a = (FF 97 (gf a)) from (FF_gf (by subst e; exact FG_len)).symm]
      exact (f14_l18_at (d := gf a) h_l18).trans (by subst e; kernel_rfl)
    · rw [n14_75]
      rw [hSeq_n]
      rw [n14_76]
      rw [n14_77]
      rw [s14_21]
      rw [hSeq_n]
      rw [n14_78]
      rw [n14_79]
      generalize e : (FG 97 d [(10, (.int .i64 0)), (63, v6), (62, v5), (61, v4), (60, (d 9)), (59, (d 3)), (56, v3), (55, v2), (54, (d 3)), (53, v1), (52, (d 9))]) = a
      rw [show a = (FF 97 (gf a)) from (FF_gf (by subst e; exact FG_len)).symm]
      exact (f14_l22_at (d := gf a) (f14_l22_eq call k ag_l18 sg_l18 h_l18 k)).trans (by subst e; kernel_rfl)
  · rw [n14_80]
    rw [hSeq_e, hLoop_e, hBlock_hit]
    rw [hSeq_n]
    generalize e : (FG 97 d [(56, v3), (55, v2), (54, (d 3)), (53, v1), (52, (d 9))]) = a
    rw [show a = (FF 97 (gf a)) from (FF_gf (by subst e; exact FG_len)).symm]
    exact (f14_r25_eq (d := gf a) call k).trans (by subst e; kernel_rfl)
noncomputable def f14_l18 (call : Handle) (k : Nat) : Nat → Value → Value → Value → GH → M (Value × GH)
  | 0, _, _, _, _ => none
  | r + 1, x3, x8, x9, H => f14_l18b call k (f14_l18 call k r) x3 x8 x9 H
theorem f14_l18_eq (call : Handle) (k : Nat) : ∀ (r : Nat), f14_l18_P (gLoop (g14 call k [1,1,1,1,1,0,1,0,0]) (hBlock 6 (hSeq (g14 call k [1,1,1,1,1,1]) (hFin Tryd.prog Tryd.f14))) r) (f14_l18 call k r) := by
  intro r
  induction r with
  | zero => unfold f14_l18_P; intros; rfl
  | succ r ih => unfold f14_l18_P; intros; exact f14_l18b_eq call k _ _ ih
noncomputable def f14_r16 (call : Handle) (k : Nat) (x3 : Value) (H : GH) : M (Value × GH) :=
  onVH (gBuildSlice Tryd.prog 68 17 [(0, (.int .i64 1)), (1, (.int .i64 0)), (2, (.int .i64 0)), (3, (.int .i64 0)), (4, (.int .i64 1)), (5, (.int .i64 0)), (6, (.int .i64 0)), (7, (.int .i64 0)), (8, (.int .i64 0)), (9, (.int .i64 0)), (10, (.int .i64 0)), (11, (.int .i64 1)), (12, (.int .i64 0)), (13, (.int .i64 0)), (14, (.int .i64 0)), (15, (.int .i64 0)), (16, (.int .i64 1))] H) fun v1 H2 =>
  (f14_l18 call k k x3 v1 (.int .i64 0) H2)
theorem f14_r16_eq (call : Handle) (k : Nat) : g14 call k [1,1,1,1] (FF 97 d) H (hFin Tryd.prog Tryd.f14) = f14_r16 call k (d 3) H := by
  unfold f14_r16
  rw [n14_55]
  rw [n14_56]
  rw [s14_16]
  refine onVH_c fun v1 H2 => ?_
  rw [hSeq_n]
  rw [n14_57]
  rw [n14_58]
  rw [n14_59]
  rw [s14_17]
  rw [hSeq_n]
  rw [n14_60]
  rw [n14_61]
  generalize e : (FG 97 d [(9, (.int .i64 0)), (8, v1), (51, v1)]) = a
  rw [show a = (FF 97 (gf a)) from (FF_gf (by subst e; exact FG_len)).symm]
  exact (f14_l18_at (d := gf a) (f14_l18_eq call k k)).trans (by subst e; kernel_rfl)
noncomputable def f14_l13b (call : Handle) (k : Nat) (sg_l13 : Sg2) (x3 x7 : Value) (H : GH) : M (Value × GH) :=
  onV ((oBin Tryd.prog .lss 3 x7 (.int .i64 16)).filter closed) fun v1 =>
  onBool (asB v1)
  (onV (oIndexAddr Tryd.prog 68 x3 x7) fun v2 =>
  onV (gLoad Tryd.prog 3 v2 H) fun v3 =>
  onV ((oBin Tryd.prog .xor 3 v3 (.int .i64 1)).filter closed) fun v4 =>
  onV (oIndexAddr Tryd.prog 68 x3 x7) fun v5 =>
  onH (gStore Tryd.prog 3 v5 v4 H) fun H6 =>
  onV ((oBin Tryd.prog .add 3 x7 (.int .i64 1)).filter closed) fun v7 =>
  (sg_l13 x3 v7 H6))
  ((f14_r16 call k x3 H))
theorem f14_l13b_eq (call : Handle) (k : Nat) (ag_l13 : AG) (sg_l13 : Sg2) (h_l13 : f14_l13_P ag_l13 sg_l13) : g14 call k [1,1,1,0,1,0,0] (FF 97 d) H (hLoop ag_l13 (hBlock 4 (hSeq (g14 call k [1,1,1,1]) (hFin Tryd.prog Tryd.f14)))) = f14_l13b call k sg_l13 (d 3) (d 7) H := by
  unfold f14_l13b
  rw [n14_45]
  rw [n14_46]
  rw [n14_47]
  rw [s14_13]
  refine onV_c fun v1 => ?_
  rw [hSeq_n]
  rw [n14_48]
  refine onBool_cc (by kernel_rfl) ?_ ?_
  · rw [n14_49]
    rw [hSeq_n]
    rw [n14_50]
    rw [n14_51]
    rw [n14_52]
    rw [s14_14]
    refine onV_c fun v2 => ?_
    refine onV_c fun v3 => ?_
    refine onV_c fun v4 => ?_
    refine onV_c fun v5 => ?_
    refine onH_c fun H6 => ?_
    rw [hBlock_n]
    rw [hSeq_n]
    rw [n14_53]
    rw [s14_15]
    refine onV_c fun v7 => ?_
    rw [hLoop_n]
    generalize e : (FG 97 d [(7, v7), (44, v7), (43, (d 7)), (50, v5), (49, v4), (48, v3), (47, v2), (46, (d 7)), (45, (d 3)), (42, v1), (41, (d 7))]) = a
    rw [show a = (FF 97 (gf a)) from (FF_gf (by subst e; exact FG_len)).symm]
    exact (f14_l13_at (d := gf a) h_l13).trans (by subst e; kernel_rfl)
  · rw [n14_54]
    rw [hSeq_e, hLoop_e, hBlock_hit]
    rw [hSeq_n]
    generalize e : (FG 97 d [(42, v1), (41, (d 7))]) = a
    rw [show a = (FF 97 (gf a)) from (FF_gf (by subst e; exact FG_len)).symm]
    exact (f14_r16_eq (d := gf a) call k).trans (by subst e; kernel_rfl)
noncomputable def f14_l13 (call : Handle) (k : Nat) : Nat → Value → Value → GH → M (Value × GH)
  | 0, _, _, _ => none
  | r + 1, x3, x7, H => f14_l13b call k (f14_l13 call k r) x3 x7 H
theorem f14_l13_eq (call : Handle) (k : Nat) : ∀ (r : Nat), f14_l13_P (gLoop (g14 call k [1,1,1,0,1,0,0]) (hBlock 4 (hSeq (g14 call k [1,1,1,1]) (hFin Tryd.prog Tryd.f14))) r) (f14_l13 call k r) := by
  intro r
  induction r with
  | zero => unfold f14_l13_P; intros; rfl
  | succ r ih => unfold f14_l13_P; intros; exact f14_l13b_eq call k _ _ ih
noncomputable def f14_r12 (call : Handle) (k : Nat) (x3 : Value) (H : GH) : M (Value × GH) :=
  (f14_l13 call k k x3 (.int .i64 0) H)
theorem f14_r12_eq (call : Handle) (k : Nat) : g14 call k [1,1,1] (FF 97 d) H (hFin Tryd.prog Tryd.f14) = f14_r12 call k (d 3) H := by
  unfold f14_r12
  rw [n14_29]
  rw [n14_30]
  rw [n14_31]
  rw [s14_8]
  rw [hSeq_n]
  rw [n14_32]
  rw [n14_33]
  generalize e : (FG 97 d [(7, (.int .i64 0))]) = a
  rw [show a = (FF 97 (gf a)) from (FF_gf (by subst e; exact FG_len)).symm]
  exact (f14_l13_at (d := gf a) (f14_l13_eq call k k)).trans (by subst e; kernel_rfl)
noncomputable def f14_l3b (call : Handle) (k : Nat) (sg_l3 : Sg3) (x0 x3 x4 : Value) (H : GH) : M (Value × GH) :=
  onV (oLen Tryd.prog 24 x0) fun v1 =>
  onV ((oBin Tryd.prog .add 3 v1 (.int .i64 2)).filter closed) fun v2 =>
  onV ((oBin Tryd.prog .lss 3 x4 v2).filter closed) fun v3 =>
  onBool (asB v3)
  (onV (oLen Tryd.prog 24 x0) fun v4 =>
  onV ((oBin Tryd.prog .lss 3 x4 v4).filter closed) fun v5 =>
  onBool (asB v5)
  (onV (oIndexAddr Tryd.prog 24 x0 x4) fun v6 =>
  onV (gLoad Tryd.prog 5 v6 H) fun v7 =>
  onV ((oConvert Tryd.prog 5 3 v7).filter closed) fun v8 =>
  (f14_r8 call k (sg_l3) x0 x3 x4 v8 H))
  ((f14_r8 call k (sg_l3) x0 x3 x4 (.int .i64 0) H)))
  ((f14_r12 call k x3 H))
theorem f14_l3b_eq (call : Handle) (k : Nat) (ag_l3 : AG) (sg_l3 : Sg3) (h_l3 : f14_l3_P ag_l3 sg_l3) : g14 call k [1,1,0,1,0,0] (FF 97 d) H (hLoop ag_l3 (hBlock 0 (hSeq (g14 call k [1,1,1]) (hFin Tryd.prog Tryd.f14)))) = f14_l3b call k sg_l3 (d 0) (d 3) (d 4) H := by
  unfold f14_l3b
  rw [n14_9]
  rw [n14_10]
  rw [n14_11]
  rw [s14_3]
  refine onV_c fun v1 => ?_
  refine onV_c fun v2 => ?_
  refine onV_c fun v3 => ?_
  rw [hSeq_n]
  rw [n14_12]
  refine onBool_cc (by kernel_rfl) ?_ ?_
  · rw [n14_13]
    rw [hSeq_n]
    rw [n14_14]
    rw [n14_15]
    rw [n14_16]
    rw [n14_17]
    rw [s14_4]
    rw [hSeq_n]
    rw [n14_18]
    rw [n14_19]
    rw [n14_20]
    rw [s14_5]
    refine onV_c fun v4 => ?_
    refine onV_c fun v5 => ?_
    rw [hSeq_n]
    rw [n14_21]
    refine onBool_cc (by kernel_rfl) ?_ ?_
    · rw [n14_22]
      rw [s14_6]
      refine onV_c fun v6 => ?_
      refine onV_c fun v7 => ?_
      refine onV_c fun v8 => ?_
      rw [hSeq_n]
      generalize e : (FG 97 d [(5, v8), (28, v8), (27, v7), (26, v6), (25, (d 4)), (24, (d 0)), (23, v5), (22, v4), (21, (d 0)), (20, (d 4)), (5, (.int .i64 0)), (17, v3), (16, v2), (15, v1), (14, (d 0)), (13, (d 4))]) = a
      rw [show a = (FF 97 (gf a)) from (FF_gf (by subst e; exact FG_len)).symm]
      exact (f14_r8_eq (d := gf a) call k ag_l3 sg_l3 h_l3).trans (by subst e; kernel_rfl)
    · rw [n14_23]
      rw [hSeq_n]
      generalize e : (FG 97 d [(23, v5), (22, v4), (21, (d 0)), (20, (d 4)), (5, (.int .i64 0)), (17, v3), (16, v2), (15, v1), (14, (d 0)), (13, (d 4))]) = a
      rw [show a = (FF 97 (gf a)) from (FF_gf (by subst e; exact FG_len)).symm]
      exact (f14_r8_eq (d := gf a) call k ag_l3 sg_l3 h_l3).trans (by subst e; kernel_rfl)
  · rw [n14_24]
    rw [hSeq_e, hLoop_e, hBlock_hit]
    rw [hSeq_n]
    generalize e : (FG 97 d [(17, v3), (16, v2), (15, v1), (14, (d 0)), (13, (d 4))]) = a
    rw [show a = (FF 97 (gf a)) from (FF_gf (by subst e; exact FG_len)).symm]
    exact (f14_r12_eq (d := gf a) call k).trans (by subst e; kernel_rfl)
noncomputable def f14_l3 (call : Handle) (k : Nat) : Nat → Value → Value → Value → GH → M (Value × GH)
  | 0, _, _, _, _ => none
  | r + 1, x0, x3, x4, H => f14_l3b call k (f14_l3 call k r) x0 x3 x4 H
theorem f14_l3_eq (call : Handle) (k : Nat) : ∀ (r : Nat), f14_l3_P (gLoop (g14 call k [1,1,0,1,0,0]) (hBlock 0 (hSeq (g14 call k [1,1,1]) (hFin Tryd.prog Tryd.f14))) r) (f14_l3 call k r) := by
  intro r
  induction r with
  | zero => unfold f14_l3_P; intros; rfl
  | succ r ih => unfold f14_l3_P; intros; exact f14_l3b_eq call k _ _ ih
noncomputable def f14_sh (call : Handle) (k : Nat) (p0 : Value) (H : GH) : M (Value × GH) :=
  (f14_l3 call k k p0 (.slice none 0 0) (.int .i64 0) H)
theorem f14_run (call : Handle) (k : Nat) (p0 : Value) (H : GH) : g14 call k [] (FG 97 (fun _ => undef) [(0, p0)]) H (hFin Tryd.prog Tryd.f14) = f14_sh call k p0 H := by
  unfold f14_sh
  rw [n14_0]
  rw [n14_1]
  rw [s14_0]
  rw [hSeq_n]
  rw [n14_2]
  rw [n14_3]
  rw [s14_1]
  rw [hSeq_n]
  rw [n14_4]
  rw [n14_5]
  rw [n14_6]
  rw [s14_2]
  rw [hSeq_n]
  rw [n14_7]
  rw [n14_8]
  generalize e : (FG 97 (fun _ => undef) [(4, (.int .i64 0)), (3, (.slice none 0 0)), (2, (.int .i64 0)), (0, p0)]) = a
  rw [show a = (FF 97 (gf a)) from (FF_gf (by subst e; exact FG_len)).symm]
  exact (f14_l3_at (d := gf a) (f14_l3_eq call k k)).trans (by subst e; kernel_rfl)
theorem f14_eq (call : Handle) (k : Nat) (p0 : Value) (H : GH) : gFunc Tryd.prog call k Tryd.f14 [p0] H = f14_sh call k p0 H :=
  Eq.trans (by kernel_rfl) (f14_run call k p0 H)
end
noncomputable def g15 {β : Type} (call : Handle) (k : Nat) (p : List Nat) : GA → GH → Kont β → M β := gCode Tryd.prog call k (fAt Tryd.f15 p)
noncomputable def o15 {β : Type} (d : Nat) (call : Handle) (p : List Nat) (i : Nat) : GA → GH → (GA → GH → M β) → M β := gOps Tryd.prog d call (opsAt (fAt Tryd.f15 p)) i ((opsAt (fAt Tryd.f15 p)).drop i)
noncomputable def t15 {β : Type} (d : Nat) (call : Handle) (p : List Nat) (i n : Nat) : GA → GH → (GA → GH → M β) → M β := gOps Tryd.prog d call (opsAt (fAt Tryd.f15 p)) i (((opsAt (fAt Tryd.f15 p)).drop i).take n)
theorem o15_s {β : Type} {d : Nat} {call : Handle} {p : List Nat} {a : GA} {H : GH} {K : GA → GH → M β} (i n : Nat) : o15 d call p i a H K = t15 d call p i n a H fun a H => o15 d call p (i + n) a H K := gOps_split i n
section
variable {β : Type} {call : Handle} {k : Nat} {a : GA} {K : Kont β} {K' : GA → GH → M β}
variable {d : Nat → Value} {xg : Value}
variable {p0 : Value}
variable {v1 v2 v3 v4 v5 v6 v7 v8 v9 v13 v21 : Value}
variable {H H3 H10 : GH}
theorem n15_0 : g15 call k [] a H K = g15 call k [0] a H (hSeq (g15 call k [1]) K) := at_seq (by kernel_rfl)
theorem n15_1 : g15 call k [0] a H K = o15 0 call [0] 0 a H (K .normal) := at_region (by kernel_rfl)
theorem n15_2 : g15 call k [1] a H K = g15 call k [1,0] a H (hSeq (g15 call k [1,1]) K) := at_seq (by kernel_rfl)
theorem n15_3 : g15 call k [1,0] a H K = o15 0 call [1,0] 0 a H (K .normal) := at_region (by kernel_rfl)
theorem n15_4 : g15 call k [1,1] a H K = g15 call k [1,1,0] a H (hSeq (g15 call k [1,1,1]) K) := at_seq (by kernel_rfl)
theorem n15_5 : g15 call k [1,1,0] a H K = o15 0 call [1,1,0] 0 a H (K .normal) := at_region (by kernel_rfl)
theorem n15_6 : g15 call k [1,1,1] a H K = g15 call k [1,1,1,0] a H (hSeq (g15 call k [1,1,1,1]) K) := at_seq (by kernel_rfl)
theorem n15_7 : g15 call k [1,1,1,0] a H K = g15 call k [1,1,1,0,0] a H (hSeq (g15 call k [1,1,1,0,1]) K) := at_seq (by kernel_rfl)
theorem n15_8 : g15 call k [1,1,1,0,0] a H K = o15 0 call [1,1,1,0,0] 0 a H (K .normal) := at_region (by kernel_rfl)
theorem n15_9 : g15 call k [1,1,1,0,1] a H K = g15 call k [1,1,1,0,1,0] a H (hBlock 0 K) := at_block (by kernel_rfl)
theorem n15_10 : g15 call k [1,1,1,0,1,0] a H K = g15 call k [1,1,1,0,1,0,0] a H (hSeq (g15 call k [1,1,1,0,1,0,1]) K) := at_seq (by kernel_rfl)
theorem n15_11 : g15 call k [1,1,1,0,1,0,0] a H K = o15 0 call [1,1,1,0,1,0,0] 0 a H (K .normal) := at_region (by kernel_rfl)
theorem n15_12 : g15 call k [1,1,1,0,1,0,1] a H K = onBool (asB (GA.eval a (.tmp 32))) (g15 call k [1,1,1,0,1,0,1,0] a H K) (g15 call k [1,1,1,0,1,0,1,1] a H K) := at_cond (by kernel_rfl)
theorem n15_13 : g15 call k [1,1,1,0,1,0,1,1] a H K = g15 call k [1,1,1,0,1,0,1,1,0] a H (hSeq (g15 call k [1,1,1,0,1,0,1,1,1]) K) := at_seq (by kernel_rfl)
theorem n15_14 : g15 call k [1,1,1,0,1,0,1,1,0] a H K = o15 0 call [1,1,1,0,1,0,1,1,0] 0 a H (K .normal) := at_region (by kernel_rfl)
theorem n15_15 : g15 call k [1,1,1,0,1,0,1,1,1] a H K = onBool (asB (GA.eval a (.tmp 43))) (g15 call k [1,1,1,0,1,0,1,1,1,0] a H K) (g15 call k [1,1,1,0,1,0,1,1,1,1] a H K) := at_cond (by kernel_rfl)
theorem n15_16 : g15 call k [1,1,1,0,1,0,1,1,1,0] a H K = o15 0 call [1,1,1,0,1,0,1,1,1,0] 0 a H (K .normal) := at_region (by kernel_rfl)
theorem n15_17 : g15 call k [1,1,1,1] a H K = g15 call k [1,1,1,1,0] a H (hSeq (g15 call k [1,1,1,1,1]) K) := at_seq (by kernel_rfl)
theorem n15_18 : g15 call k [1,1,1,1,0] a H K = o15 0 call [1,1,1,1,0] 0 a H (K .normal) := at_region (by kernel_rfl)
theorem n15_19 : g15 call k [1,1,1,1,1] a H K = K .ret a H := at_ret (by kernel_rfl)
theorem n15_20 : g15 call k [1,1,1,0,1,0,1,1,1,1] a H K = g15 call k [1,1,1,0,1,0,1,1,1,1,0] a H (hSeq (g15 call k [1,1,1,0,1,0,1,1,1,1,1]) K) := at_seq (by kernel_rfl)
theorem n15_21 : g15 call k [1,1,1,0,1,0,1,1,1,1,0] a H K = o15 0 call [1,1,1,0,1,0,1,1,1,1,0] 0 a H (K .normal) := at_region (by kernel_rfl)
theorem n15_22 : g15 call k [1,1,1,0,1,0,1,1,1,1,1] a H K = onBool (asB (GA.eval a (.tmp 50))) (g15 call k [1,1,1,0,1,0,1,1,1,1,1,0] a H K) (g15 call k [1,1,1,0,1,0,1,1,1,1,1,1] a H K) := at_cond (by kernel_rfl)
theorem n15_23 : g15 call k [1,1,1,0,1,0,1,1,1,1,1,0] a H K = o15 0 call [1,1,1,0,1,0,1,1,1,1,1,0] 0 a H (K .normal) := at_region (by kernel_rfl)
theorem n15_24 : g15 call k [1,1,1,0,1,0,1,1,1,1,1,1] a H K = g15 call k [1,1,1,0,1,0,1,1,1,1,1,1,0] a H (hSeq (g15 call k [1,1,1,0,1,0,1,1,1,1,1,1,1]) K) := at_seq (by kernel_rfl)
theorem n15_25 : g15 call k [1,1,1,0,1,0,1,1,1,1,1,1,0] a H K = g15 call k [1,1,1,0,1,0,1,1,1,1,1,1,0,0] a H (hSeq (g15 call k [1,1,1,0,1,0,1,1,1,1,1,1,0,1]) K) := at_seq (by kernel_rfl)
theorem n15_26 : g15 call k [1,1,1,0,1,0,1,1,1,1,1,1,0,0] a H K = o15 0 call [1,1,1,0,1,0,1,1,1,1,1,1,0,0] 0 a H (K .normal) := at_region (by kernel_rfl)
theorem n15_27 : g15 call k [1,1,1,0,1,0,1,1,1,1,1,1,0,1] a H K = onBool (asB (GA.eval a (.tmp 58))) (g15 call k [1,1,1,0,1,0,1,1,1,1,1,1,0,1,0] a H K) (g15 call k [1,1,1,0,1,0,1,1,1,1,1,1,0,1,1] a H K) := at_cond (by kernel_rfl)
theorem n15_28 : g15 call k [1,1,1,0,1,0,1,1,1,1,1,1,0,1,0] a H K = K .normal a H := at_skip (by kernel_rfl)
theorem n15_29 : g15 call k [1,1,1,0,1,0,1,1,1,1,1,1,0,1,1] a H K = o15 0 call [1,1,1,0,1,0,1,1,1,1,1,1,0,1,1] 0 a H (K .normal) := at_region (by kernel_rfl)
theorem n15_30 : g15 call k [1,1,1,0,1,0,1,0] a H K = o15 3 call [1,1,1,0,1,0,1,0] 0 a H (K .normal) := at_region (by kernel_rfl)
theorem n15_31 : g15 call k [1,1,1,0,1,0,1,1,1,1,1,1,1] a H K = onBool (asB (GA.eval a (.tmp 58))) (g15 call k [1,1,1,0,1,0,1,1,1,1,1,1,1,0] a H K) (g15 call k [1,1,1,0,1,0,1,1,1,1,1,1,1,1] a H K) := at_cond (by kernel_rfl)
theorem n15_32 : g15 call k [1,1,1,0,1,0,1,1,1,1,1,1,1,0] a H K = o15 0 call [1,1,1,0,1,0,1,1,1,1,1,1,1,0] 0 a H (K .normal) := at_region (by kernel_rfl)
theorem n15_33 : g15 call k [1,1,1,0,1,0,1,1,1,1,1,1,1,1] a H K = o15 3 call [1,1,1,0,1,0,1,1,1,1,1,1,1,1] 0 a H (K .normal) := at_region (by kernel_rfl)
theorem s15_0 : o15 0 call [0] 0 (FG 64 (fun _ => undef) [(0, p0)]) H K' =
  K' (FG 64 (fun _ => undef) [(2, (.pointer (some ⟨(GH.push H (.row (Value.cells p0).toList 52 false)).n, 0, none⟩))), (1, (.pointer (some ⟨H.n, 0, none⟩))), (0, p0)]) (GH.push (GH.push H (.row (Value.cells p0).toList 52 false)) (.row [(.int .u8 0), (.int .u8 0), (.int .u8 0), (.int .i64 0), (.int .u8 0), (.int .i64 0)] 48 false)) := by kernel_rfl
theorem s15_1 : o15 0 call [1,0] 0 (FG 64 (fun _ => undef) [(2, (.pointer (some ⟨(GH.push H (.row (Value.cells p0).toList 52 false)).n, 0, none⟩))), (1, (.pointer (some ⟨H.n, 0, none⟩))), (0, p0)]) (GH.push (GH.push H (.row (Value.cells p0).toList 52 false)) (.row [(.int .u8 0), (.int .u8 0), (.int .u8 0), (.int .i64 0), (.int .u8 0), (.int .i64 0)] 48 false)) K' =
  onV (gLoad Tryd.prog 5 (.pointer (some ⟨H.n, 0, none⟩)) (GH.push (GH.push H (.row (Value.cells p0).toList 52 false)) (.row [(.int .u8 0), (.int .u8 0), (.int .u8 0), (.int .i64 0), (.int .u8 0), (.int .i64 0)] 48 false))) fun v1 =>
  onV ((oBin Tryd.prog .rem 5 v1 (.int .u8 8)).filter closed) fun v2 =>
  onV ((oBin Tryd.prog .add 5 (.int .u8 1) v2).filter closed) fun v3 =>
  onV (oBuild Tryd.prog 48 [(0, v3)]) fun v4 =>
  onH (gStore Tryd.prog 48 (.pointer (some ⟨(GH.push (GH.push H (.row (Value.cells p0).toList 52 false)) (.row [(.int .u8 0), (.int .u8 0), (.int .u8 0), (.int .i64 0), (.int .u8 0), (.int .i64 0)] 48 false)).n, 0, none⟩)) v4 (GH.push (GH.push (GH.push H (.row (Value.cells p0).toList 52 false)) (.row [(.int .u8 0), (.int .u8 0), (.int .u8 0), (.int .i64 0), (.int .u8 0), (.int .i64 0)] 48 false)) (.row [(.int .u8 0), (.int .u8 0), (.int .u8 0), (.int .i64 0), (.int .u8 0), (.int .i64 0)] 48 false))) fun H5 =>
  K' (FG 64 (fun _ => undef) [(3, (.pointer (some ⟨(GH.push (GH.push H (.row (Value.cells p0).toList 52 false)) (.row [(.int .u8 0), (.int .u8 0), (.int .u8 0), (.int .i64 0), (.int .u8 0), (.int .i64 0)] 48 false)).n, 0, none⟩))), (9, v4), (8, v3), (7, v2), (6, v1), (5, (.pointer (some ⟨H.n, 0, none⟩))), (2, (.pointer (some ⟨(GH.push H (.row (Value.cells p0).toList 52 false)).n, 0, none⟩))), (1, (.pointer (some ⟨H.n, 0, none⟩))), (0, p0)]) H5 := by kernel_rfl
theorem s15_2 : o15 0 call [1,1,0] 0 (FF 64 d) H K' =
  onV (oFieldAddr Tryd.prog 52 (d 1) 2) fun v1 =>
  onV (gLoad Tryd.prog 5 v1 H) fun v2 =>
  onV ((oBin Tryd.prog .rem 5 v2 (.int .u8 2)).filter closed) fun v3 =>
  onV (oFieldAddr Tryd.prog 52 (d 1) 3) fun v4 =>
  onV (gLoad Tryd.prog 5 v4 H) fun v5 =>
  onV ((oBin Tryd.prog .rem 5 v5 (.int .u8 40)).filter closed) fun v6 =>
  onV ((oConvert Tryd.prog 5 3 v6).filter closed) fun v7 =>
  onV ((oBin Tryd.prog .add 3 (.int .i64 1) v7).filter closed) fun v8 =>
  onV (oBuild Tryd.prog 46 [(0, v3), (1, v8)]) fun v9 =>
  onH (gStore Tryd.prog 46 (.pointer (some ⟨H.n, 0, none⟩)) v9 (GH.push H (.row [(.int .u8 0), (.int .i64 0)] 46 false))) fun H10 =>
  K' (FG 64 d [(4, (.pointer (some ⟨H.n, 0, none⟩))), (18, v9), (17, v8), (16, v7), (15, v6), (14, v5), (13, v4), (12, v3), (11, v2), (10, v1)]) H10 := by kernel_rfl
theorem s15_3 : o15 0 call [1,1,1,0,0] 0 (FF 64 d) H K' =
  onV (oFieldAddr Tryd.prog 48 (d 3) 0) fun v1 =>
  onV (gLoad Tryd.prog 42 v1 H) fun v2 =>
  K' (FG 64 d [(20, v2), (19, v1)]) H := by kernel_rfl
theorem s15_4 : o15 0 call [1,1,1,0,1,0,0] 0 (FG 64 d [(20, v2), (19, v1)]) H K' =
  onV ((oBin Tryd.prog .eql 42 v2 (.int .u8 1)).filter closed) fun v3 =>
  K' (FG 64 d [(32, v3), (33, v3), (20, v2), (19, v1)]) H := by kernel_rfl
theorem s15_5 : o15 0 call [1,1,1,0,1,0,1,1,0] 0 (FG 64 d [(32, v3), (33, v3), (20, v2), (19, v1)]) H K' =
  onV ((oBin Tryd.prog .eql 42 v2 (.int .u8 2)).filter closed) fun v4 =>
  K' (FG 64 d [(43, v4), (44, v4), (32, v3), (33, v3), (20, v2), (19, v1)]) H := by kernel_rfl
theorem s15_6 : o15 0 call [1,1,1,0,1,0,1,1,1,0] 0 (FG 64 d [(43, v4), (44, v4), (32, v3), (33, v3), (20, v2), (19, v1)]) H K' =
  onV (oFieldAddr Tryd.prog 52 (d 1) 4) fun v5 =>
  onV (gLoad Tryd.prog 5 v5 H) fun v6 =>
  onV ((oBin Tryd.prog .rem 5 v6 (.int .u8 6)).filter closed) fun v7 =>
  onV ((oBin Tryd.prog .add 5 (.int .u8 1) v7).filter closed) fun v8 =>
  onV (oFieldAddr Tryd.prog 48 (d 3) 3) fun v9 =>
  onH (gStore Tryd.prog 5 v9 v8 H) fun H10 =>
  K' (FG 64 d [(49, v9), (48, v8), (47, v7), (46, v6), (45, v5), (43, v4), (44, v4), (32, v3), (33, v3), (20, v2), (19, v1)]) H10 := by kernel_rfl
theorem s15_7 : o15 0 call [1,1,1,1,0] 0 (FG 64 d [(49, v9), (48, v8), (47, v7), (46, v6), (45, v5), (43, v4), (44, v4), (32, v3), (33, v3), (20, v2), (19, v1)]) H10 K' =
  onV (gLoad Tryd.prog 48 (d 3) H10) fun v11 =>
  onH (gStore Tryd.prog 48 (d 2) v11 H10) fun H12 =>
  K' (FG 64 d [(63, v11), (49, v9), (48, v8), (47, v7), (46, v6), (45, v5), (43, v4), (44, v4), (32, v3), (33, v3), (20, v2), (19, v1)]) H12 := by kernel_rfl
theorem s15_8 : o15 0 call [1,1,1,0,1,0,1,1,1,1,0] 0 (FG 64 d [(43, v4), (44, v4), (32, v3), (33, v3), (20, v2), (19, v1)]) H K' =
  onV ((oBin Tryd.prog .eql 42 v2 (.int .u8 3)).filter closed) fun v13 =>
  K' (FG 64 d [(50, v13), (51, v13), (43, v4), (44, v4), (32, v3), (33, v3), (20, v2), (19, v1)]) H := by kernel_rfl
theorem s15_9 : o15 0 call [1,1,1,0,1,0,1,1,1,1,1,0] 0 (FG 64 d [(50, v13), (51, v13), (43, v4), (44, v4), (32, v3), (33, v3), (20, v2), (19, v1)]) H K' =
  onV (oFieldAddr Tryd.prog 52 (d 1) 5) fun v14 =>
  onV (gLoad Tryd.prog 5 v14 H) fun v15 =>
  onV ((oBin Tryd.prog .rem 5 v15 (.int .u8 9)).filter closed) fun v16 =>
  onV ((oConvert Tryd.prog 5 3 v16).filter closed) fun v17 =>
  onV ((oBin Tryd.prog .sub 3 v17 (.int .i64 4)).filter closed) fun v18 =>
  onV (oFieldAddr Tryd.prog 48 (d 3) 4) fun v19 =>
  onH (gStore Tryd.prog 3 v19 v18 H) fun H20 =>
  K' (FG 64 d [(57, v19), (56, v18), (55, v17), (54, v16), (53, v15), (52, v14), (50, v13), (51, v13), (43, v4), (44, v4), (32, v3), (33, v3), (20, v2), (19, v1)]) H20 := by kernel_rfl
theorem s15_10 : o15 0 call [1,1,1,0,1,0,1,1,1,1,1,1,0,0] 0 (FG 64 d [(50, v13), (51, v13), (43, v4), (44, v4), (32, v3), (33, v3), (20, v2), (19, v1)]) H K' =
  onV ((oBin Tryd.prog .eql 42 v2 (.int .u8 7)).filter closed) fun v21 =>
  K' (FG 64 d [(58, v21), (59, v21), (50, v13), (51, v13), (43, v4), (44, v4), (32, v3), (33, v3), (20, v2), (19, v1)]) H := by kernel_rfl
theorem s15_11 : o15 0 call [1,1,1,0,1,0,1,1,1,1,1,1,0,1,1] 0 (FG 64 d [(58, v21), (59, v21), (50, v13), (51, v13), (43, v4), (44, v4), (32, v3), (33, v3), (20, v2), (19, v1)]) H K' =
  onV ((oBin Tryd.prog .eql 42 v2 (.int .u8 8)).filter closed) fun v22 =>
  K' (FG 64 d [(58, v22), (60, v22), (58, v21), (59, v21), (50, v13), (51, v13), (43, v4), (44, v4), (32, v3), (33, v3), (20, v2), (19, v1)]) H := by kernel_rfl
theorem s15_12 : o15 3 call [1,1,1,0,1,0,1,0] 0 (FF 64 d) H K' =
  onV (oFieldAddr Tryd.prog 52 (d 1) 1) fun v1 =>
  onV (gLoad Tryd.prog 5 v1 H) fun v2 =>
  onV ((oBin Tryd.prog .rem 5 v2 (.int .u8 2)).filter closed) fun v3 =>
  onV (oFieldAddr Tryd.prog 52 (d 1) 4) fun v4 =>
  onV (gLoad Tryd.prog 5 v4 H) fun v5 =>
  onClosed true v5 <|
  onV ((oBin Tryd.prog .rem 5 v5 (.int .u8 6)).filter closed) fun v6 =>
  onV ((oBin Tryd.prog .add 5 (.int .u8 1) v6).filter closed) fun v7 =>
  onV (oFieldAddr Tryd.prog 48 (d 3) 1) fun v8 =>
  onH (gStore Tryd.prog 43 v8 v3 H) fun H9 =>
  onSame (gLoad Tryd.prog 5 v4 H) (gLoad Tryd.prog 5 v4 H9) <|
  onV (oFieldAddr Tryd.prog 48 (d 3) 3) fun v10 =>
  onH (gStore Tryd.prog 5 v10 v7 H9) fun H11 =>
  K' (FG 64 d [(42, v10), (41, v8), (40, v7), (39, v6), (38, v5), (37, v4), (36, v3), (35, v2), (34, v1)]) H11 := by kernel_rfl
theorem s15_13 : o15 0 call [1,1,1,1,0] 0 (FF 64 d) H K' =
  onV (gLoad Tryd.prog 48 (d 3) H) fun v1 =>
  onH (gStore Tryd.prog 48 (d 2) v1 H) fun H2 =>
  K' (FG 64 d [(63, v1)]) H2 := by kernel_rfl
theorem s15_14 : o15 0 call [1,1,1,0,1,0,1,1,1,1,1,1,1,0] 0 (FF 64 d) H K' =
  onV (gLoad Tryd.prog 46 (d 4) H) fun v1 =>
  onV (oFieldAddr Tryd.prog 48 (d 3) 2) fun v2 =>
  onH (gStore Tryd.prog 46 v2 v1 H) fun H3 =>
  K' (FG 64 d [(62, v2), (61, v1)]) H3 := by kernel_rfl
theorem s15_15 : o15 0 call [1,1,1,1,0] 0 (FG 64 d [(62, v2), (61, v1)]) H3 K' =
  onV (gLoad Tryd.prog 48 (d 3) H3) fun v4 =>
  onH (gStore Tryd.prog 48 (d 2) v4 H3) fun H5 =>
  K' (FG 64 d [(63, v4), (62, v2), (61, v1)]) H5 := by kernel_rfl
theorem s15_16 : o15 3 call [1,1,1,0,1,0,1,1,1,1,1,1,1,1] 0 (FF 64 d) H K' =
  onV (oFieldAddr Tryd.prog 52 (d 1) 1) fun v6 =>
  onV (gLoad Tryd.prog 5 v6 H) fun v7 =>
  onV ((oBin Tryd.prog .rem 5 v7 (.int .u8 2)).filter closed) fun v8 =>
  onV (gLoad Tryd.prog 46 (d 4) H) fun v9 =>
  onClosed true v9 <|
  onV (oFieldAddr Tryd.prog 52 (d 1) 4) fun v10 =>
  onV (gLoad Tryd.prog 5 v10 H) fun v11 =>
  onClosed true v11 <|
  onV ((oBin Tryd.prog .rem 5 v11 (.int .u8 6)).filter closed) fun v12 =>
  onV ((oBin Tryd.prog .add 5 (.int .u8 1) v12).filter closed) fun v13 =>
  onV (oFieldAddr Tryd.prog 48 (d 3) 1) fun v14 =>
  onH (gStore Tryd.prog 43 v14 v8 H) fun H15 =>
  onSame (gLoad Tryd.prog 46 (d 4) H) (gLoad Tryd.prog 46 (d 4) H15) <|
  onSame (gLoad Tryd.prog 5 v10 H) (gLoad Tryd.prog 5 v10 H15) <|
  onV (oFieldAddr Tryd.prog 48 (d 3) 2) fun v16 =>
  onH (gStore Tryd.prog 46 v16 v9 H15) fun H17 =>
  onSame (gLoad Tryd.prog 5 v10 H15) (gLoad Tryd.prog 5 v10 H17) <|
  onV (oFieldAddr Tryd.prog 48 (d 3) 3) fun v18 =>
  onH (gStore Tryd.prog 5 v18 v13 H17) fun H19 =>
  K' (FG 64 d [(31, v18), (30, v16), (29, v14), (28, v13), (27, v12), (26, v11), (25, v10), (24, v9), (23, v8), (22, v7), (21, v6)]) H19 := by kernel_rfl
noncomputable def f15_r14 (call : Handle) (k : Nat) (x2 x3 : Value) (H : GH) : M (Value × GH) :=
  onV (gLoad Tryd.prog 48 x3 H) fun v1 =>
  onH (gStore Tryd.prog 48 x2 v1 H) fun H2 =>
  onV (gResL Tryd.prog H2 [(x2, some 48)]) fun v => some [(v, H2)]
theorem f15_r14_eq (call : Handle) (k : Nat) : g15 call k [1,1,1,1,0] (FF 64 d) H (hSeq (g15 call k [1,1,1,1,1]) (hFin Tryd.prog Tryd.f15)) = f15_r14 call k (d 2) (d 3) H := by
  unfold f15_r14
  rw [n15_18]
  rw [s15_13]
  refine onV_c fun v1 => ?_
  refine onH_c fun H2 => ?_
  rw [hSeq_n]
  rw [n15_19]
  kernel_rfl
noncomputable def f15_r6 (call : Handle) (k : Nat) (x1 x2 x3 : Value) (H : GH) : M (Value × GH) :=
  onV (oFieldAddr Tryd.prog 52 x1 1) fun v1 =>
  onV (gLoad Tryd.prog 5 v1 H) fun v2 =>
  onV ((oBin Tryd.prog .rem 5 v2 (.int .u8 2)).filter closed) fun v3 =>
  onV (oFieldAddr Tryd.prog 52 x1 4) fun v4 =>
  onV (gLoad Tryd.prog 5 v4 H) fun v5 =>
  onClosed true v5 <|
  onV ((oBin Tryd.prog .rem 5 v5 (.int .u8 6)).filter closed) fun v6 =>
  onV ((oBin Tryd.prog .add 5 (.int .u8 1) v6).filter closed) fun v7 =>
  onV (oFieldAddr Tryd.prog 48 x3 1) fun v8 =>
  onH (gStore Tryd.prog 43 v8 v3 H) fun H9 =>
  onSame (gLoad Tryd.prog 5 v4 H) (gLoad Tryd.prog 5 v4 H9) <|
  onV (oFieldAddr Tryd.prog 48 x3 3) fun v10 =>
  onH (gStore Tryd.prog 5 v10 v7 H9) fun H11 =>
  (f15_r14 call k x2 x3 H11)
theorem f15_r6_eq (call : Handle) (k : Nat) : g15 call k [1,1,1,0,1,0,1,0] (FF 64 d) H (hBlock 0 (hSeq (g15 call k [1,1,1,1]) (hFin Tryd.prog Tryd.f15))) = f15_r6 call k (d 1) (d 2) (d 3) H := by
  unfold f15_r6
  rw [n15_30]
  rw [s15_12]
  refine onV_c fun v1 => ?_
  refine onV_c fun v2 => ?_
  refine onV_c fun v3 => ?_
  refine onV_c fun v4 => ?_
  refine onV_c fun v5 => ?_
  refine onClosed_c ?_
  refine onV_c fun v6 => ?_
  refine onV_c fun v7 => ?_
  refine onV_c fun v8 => ?_
  refine onH_c fun H9 => ?_
  refine onSame_c ?_
  refine onV_c fun v10 => ?_
  refine onH_c fun H11 => ?_
  rw [hBlock_n]
  rw [hSeq_n]
  rw [n15_17]
  generalize e : (FG 64 d [(42, v10), (41, v8), (40, v7), (39, v6), (38, v5), (37, v4), (36, v3), (35, v2), (34, v1)]) = a
  rw [show a = (FF 64 (gf a)) from (FF_gf (by subst e; exact FG_len)).symm]
  exact (f15_r14_eq (d := gf a) call k).trans (by subst e; kernel_rfl)
noncomputable def f15_r13 (call : Handle) (k : Nat) (x1 x2 x3 x4 x58 : Value) (H : GH) : M (Value × GH) :=
  onBool (asB x58)
  (onV (gLoad Tryd.prog 46 x4 H) fun v1 =>
  onV (oFieldAddr Tryd.prog 48 x3 2) fun v2 =>
  onH (gStore Tryd.prog 46 v2 v1 H) fun H3 =>
  onV (gLoad Tryd.prog 48 x3 H3) fun v4 =>
  onH (gStore Tryd.prog 48 x2 v4 H3) fun H5 =>
  onV (gResL Tryd.prog H5 [(x2, some 48)]) fun v => some [(v, H5)])
  (onV (oFieldAddr Tryd.prog 52 x1 1) fun v6 =>
  onV (gLoad Tryd.prog 5 v6 H) fun v7 =>
  onV ((oBin Tryd.prog .rem 5 v7 (.int .u8 2)).filter closed) fun v8 =>
  onV (gLoad Tryd.prog 46 x4 H) fun v9 =>
  onClosed true v9 <|
  onV (oFieldAddr Tryd.prog 52 x1 4) fun v10 =>
  onV (gLoad Tryd.prog 5 v10 H) fun v11 =>
  onClosed true v11 <|
  onV ((oBin Tryd.prog .rem 5 v11 (.int .u8 6)).filter closed) fun v12 =>
  onV ((oBin Tryd.prog .add 5 (.int .u8 1) v12).filter closed) fun v13 =>
  onV (oFieldAddr Tryd.prog 48 x3 1) fun v14 =>
  onH (gStore Tryd.prog 43 v14 v8 H) fun H15 =>
  onSame (gLoad Tryd.prog 46 x4 H) (gLoad Tryd.prog 46 x4 H15) <|
  onSame (gLoad Tryd.prog 5 v10 H) (gLoad Tryd.prog 5 v10 H15) <|
  onV (oFieldAddr Tryd.prog 48 x3 2) fun v16 =>
  onH (gStore Tryd.prog 46 v16 v9 H15) fun H17 =>
  onSame (gLoad Tryd.prog 5 v10 H15) (gLoad Tryd.prog 5 v10 H17) <|
  onV (oFieldAddr Tryd.prog 48 x3 3) fun v18 =>
  onH (gStore Tryd.prog 5 v18 v13 H17) fun H19 =>
  (f15_r14 call k x2 x3 H19))
theorem f15_r13_eq (call : Handle) (k : Nat) : g15 call k [1,1,1,0,1,0,1,1,1,1,1,1,1] (FF 64 d) H (hBlock 0 (hSeq (g15 call k [1,1,1,1]) (hFin Tryd.prog Tryd.f15))) = f15_r13 call k (d 1) (d 2) (d 3) (d 4) (d 58) H := by
  unfold f15_r13
  rw [n15_31]
  refine onBool_cc (by kernel_rfl) ?_ ?_
  · rw [n15_32]
    rw [s15_14]
    refine onV_c fun v1 => ?_
    refine onV_c fun v2 => ?_
    refine onH_c fun H3 => ?_
    rw [hBlock_n]
    rw [hSeq_n]
    rw [n15_17]
    rw [n15_18]
    rw [s15_15]
    refine onV_c fun v4 => ?_
    refine onH_c fun H5 => ?_
    rw [hSeq_n]
    rw [n15_19]
    kernel_rfl
  · rw [n15_33]
    rw [s15_16]
    refine onV_c fun v6 => ?_
    refine onV_c fun v7 => ?_
    refine onV_c fun v8 => ?_
    refine onV_c fun v9 => ?_
    refine onClosed_c ?_
    refine onV_c fun v10 => ?_
    refine onV_c fun v11 => ?_
    refine onClosed_c ?_
    refine onV_c fun v12 => ?_
    refine onV_c fun v13 => ?_
    refine onV_c fun v14 => ?_
    refine onH_c fun H15 => ?_
    refine onSame_c ?_
    refine onSame_c ?_
    refine onV_c fun v16 => ?_
    refine onH_c fun H17 => ?_
    refine onSame_c ?_
    refine onV_c fun v18 => ?_
    refine onH_c fun H19 => ?_
    rw [hBlock_n]
    rw [hSeq_n]
    rw [n15_17]
    generalize e : (FG 64 d [(31, v18), (30, v16), (29, v14), (28, v13), (27, v12), (26, v11), (25, v10), (24, v9), (23, v8), (22, v7), (21, v6)]) = a
    rw [show a = (FF 64 (gf a)) from (FF_gf (by subst e; exact FG_len)).symm]
    exact (f15_r14_eq (d := gf a) call k).trans (by subst e; kernel_rfl)
noncomputable def f15_r3 (call : Handle) (k : Nat) (x1 x2 x3 x4 : Value) (H : GH) : M (Value × GH) :=
  onV (oFieldAddr Tryd.prog 48 x3 0) fun v1 =>
  onV (gLoad Tryd.prog 42 v1 H) fun v2 =>
  onV ((oBin Tryd.prog .eql 42 v2 (.int .u8 1)).filter closed) fun v3 =>
  onBool (asB v3)
  ((f15_r6 call k x1 x2 x3 H))
  (onV ((oBin Tryd.prog .eql 42 v2 (.int .u8 2)).filter closed) fun v4 =>
  onBool (asB v4)
  (onV (oFieldAddr Tryd.prog 52 x1 4) fun v5 =>
  onV (gLoad Tryd.prog 5 v5 H) fun v6 =>
  onV ((oBin Tryd.prog .rem 5 v6 (.int .u8 6)).filter closed) fun v7 =>
  onV ((oBin Tryd.prog .add 5 (.int .u8 1) v7).filter closed) fun v8 =>
  onV (oFieldAddr Tryd.prog 48 x3 3) fun v9 =>
  onH (gStore Tryd.prog 5 v9 v8 H) fun H10 =>
  onV (gLoad Tryd.prog 48 x3 H10) fun v11 =>
  onH (gStore Tryd.prog 48 x2 v11 H10) fun H12 =>
  onV (gResL Tryd.prog H12 [(x2, some 48)]) fun v => some [(v, H12)])
  (onV ((oBin Tryd.prog .eql 42 v2 (.int .u8 3)).filter closed) fun v13 =>
  onBool (asB v13)
  (onV (oFieldAddr Tryd.prog 52 x1 5) fun v14 =>
  onV (gLoad Tryd.prog 5 v14 H) fun v15 =>
  onV ((oBin Tryd.prog .rem 5 v15 (.int .u8 9)).filter closed) fun v16 =>
  onV ((oConvert Tryd.prog 5 3 v16).filter closed) fun v17 =>
  onV ((oBin Tryd.prog .sub 3 v17 (.int .i64 4)).filter closed) fun v18 =>
  onV (oFieldAddr Tryd.prog 48 x3 4) fun v19 =>
  onH (gStore Tryd.prog 3 v19 v18 H) fun H20 =>
  (f15_r14 call k x2 x3 H20))
  (onV ((oBin Tryd.prog .eql 42 v2 (.int .u8 7)).filter closed) fun v21 =>
  onBool (asB v21)
  ((f15_r13 call k x1 x2 x3 x4 v21 H))
  (onV ((oBin Tryd.prog .eql 42 v2 (.int .u8 8)).filter closed) fun v22 =>
  (f15_r13 call k x1 x2 x3 x4 v22 H)))))
theorem f15_r3_eq (call : Handle) (k : Nat) : g15 call k [1,1,1,0,0] (FF 64 d) H (hSeq (g15 call k [1,1,1,0,1]) (hSeq (g15 call k [1,1,1,1]) (hFin Tryd.prog Tryd.f15))) = f15_r3 call k (d 1) (d 2) (d 3) (d 4) H := by
  unfold f15_r3
  rw [n15_8]
  rw [s15_3]
  refine onV_c fun v1 => ?_
  refine onV_c fun v2 => ?_
  rw [hSeq_n]
  rw [n15_9]
  rw [n15_10]
  rw [n15_11]
  rw [s15_4]
  refine onV_c fun v3 => ?_
  rw [hSeq_n]
  rw [n15_12]
  refine onBool_cc (by kernel_rfl) ?_ ?_
  · generalize e : (FG 64 d [(32, v3), (33, v3), (20, v2), (19, v1)]) = a
    rw [show a = (FF 64 (gf a)) from (FF_gf (by subst e; exact FG_len)).symm]
    exact (f15_r6_eq (d := gf a) call k).trans (by subst e; kernel_rfl)
  · rw [n15_13]
    rw [n15_14]
    rw [s15_5]
    refine onV_c fun v4 => ?_
    rw [hSeq_n]
    rw [n15_15]
    refine onBool_cc (by kernel_rfl) ?_ ?_
    · rw [n15_16]
      rw [s15_6]
      refine onV_c fun v5 => ?_
      refine onV_c fun v6 => ?_
      refine onV_c fun v7 => ?_
      refine onV_c fun v8 => ?_
      refine onV_c fun v9 => ?_
      refine onH_c fun H10 => ?_
      rw [hBlock_n]
      rw [hSeq_n]
      rw [n15_17]
      rw [n15_18]
      rw [s15_7]
      refine onV_c fun v11 => ?_
      refine onH_c fun H12 => ?_
      rw [hSeq_n]
      rw [n15_19]
      kernel_rfl
    · rw [n15_20]
      rw [n15_21]
      rw [s15_8]
      refine onV_c fun v13 => ?_
      rw [hSeq_n]
      rw [n15_22]
      refine onBool_cc (by kernel_rfl) ?_ ?_
      · rw [n15_23]
        rw [s15_9]
        refine onV_c fun v14 => ?_
        refine onV_c fun v15 => ?_
        refine onV_c fun v16 => ?_
        refine onV_c fun v17 => ?_
        refine onV_c fun v18 => ?_
        refine onV_c fun v19 => ?_
        refine onH_c fun H20 => ?_
        rw [hBlock_n]
        rw [hSeq_n]
        rw [n15_17]
        generalize e : (FG 64 d [(57, v19), (56, v18), (55, v17), (54, v16), (53, v15), (52, v14), (50, v13), (51, v13), (43, v4), (44, v4), (32, v3), (33, v3), (20, v2), (19, v1)]) = a
        rw [show a = (FF 64 (gf a)) from (FF_gf (by subst e; exact FG_len)).symm]
        exact (f15_r14_eq (d := gf a) call k).trans (by subst e; kernel_rfl)
      · rw [n15_24]
        rw [n15_25]
        rw [n15_26]
        rw [s15_10]
        refine onV_c fun v21 => ?_
        rw [hSeq_n]
        rw [n15_27]
        refine onBool_cc (by kernel_rfl) ?_ ?_
        · rw [n15_28]
          rw [hSeq_n]
          generalize e : (FG 64 d [(58, v21), (59, v21), (50, v13), (51, v13), (43, v4), (44, v4), (32, v3), (33, v3), (20, v2), (19, v1)]) = a
          rw [show a = (FF 64 (gf a)) from (FF_gf (by subst e; exact FG_len)).symm]
          exact (f15_r13_eq (d := gf a) call k).trans (by subst e; kernel_rfl)
        · rw [n15_29]
          rw [s15_11]
          refine onV_c fun v22 => ?_
          rw [hSeq_n]
          generalize e : (FG 64 d [(58, v22), (60, v22), (58, v21), (59, v21), (50, v13), (51, v13), (43, v4), (44, v4), (32, v3), (33, v3), (20, v2), (19, v1)]) = a
          rw [show a = (FF 64 (gf a)) from (FF_gf (by subst e; exact FG_len)).symm]
          exact (f15_r13_eq (d := gf a) call k).trans (by subst e; kernel_rfl)
noncomputable def f15_r2 (call : Handle) (k : Nat) (x1 x2 x3 : Value) (H : GH) : M (Value × GH) :=
  onV (oFieldAddr Tryd.prog 52 x1 2) fun v1 =>
  onV (gLoad Tryd.prog 5 v1 H) fun v2 =>
  onV ((oBin Tryd.prog .rem 5 v2 (.int .u8 2)).filter closed) fun v3 =>
  onV (oFieldAddr Tryd.prog 52 x1 3) fun v4 =>
  onV (gLoad Tryd.prog 5 v4 H) fun v5 =>
  onV ((oBin Tryd.prog .rem 5 v5 (.int .u8 40)).filter closed) fun v6 =>
  onV ((oConvert Tryd.prog 5 3 v6).filter closed) fun v7 =>
  onV ((oBin Tryd.prog .add 3 (.int .i64 1) v7).filter closed) fun v8 =>
  onV (oBuild Tryd.prog 46 [(0, v3), (1, v8)]) fun v9 =>
  onH (gStore Tryd.prog 46 (.pointer (some ⟨H.n, 0, none⟩)) v9 (GH.push H (.row [(.int .u8 0), (.int .i64 0)] 46 false))) fun H10 =>
  (f15_r3 call k x1 x2 x3 (.pointer (some ⟨H.n, 0, none⟩)) H10)
theorem f15_r2_eq (call : Handle) (k : Nat) : g15 call k [1,1,0] (FF 64 d) H (hSeq (g15 call k [1,1,1]) (hFin Tryd.prog Tryd.f15)) = f15_r2 call k (d 1) (d 2) (d 3) H := by
  unfold f15_r2
  rw [n15_5]
  rw [s15_2]
  refine onV_c fun v1 => ?_
  refine onV_c fun v2 => ?_
  refine onV_c fun v3 => ?_
  refine onV_c fun v4 => ?_
  refine onV_c fun v5 => ?_
  refine onV_c fun v6 => ?_
  refine onV_c fun v7 => ?_
  refine onV_c fun v8 => ?_
  refine onV_c fun v9 => ?_
  refine onH_c fun H10 => ?_
  rw [hSeq_n]
  rw [n15_6]
  rw [n15_7]
  generalize e : (FG 64 d [(4, (.pointer (some ⟨H.n, 0, none⟩))), (18, v9), (17, v8), (16, v7), (15, v6), (14, v5), (13, v4), (12, v3), (11, v2), (10, v1)]) = a
  rw [show a = (FF 64 (gf a)) from (FF_gf (by subst e; exact FG_len)).symm]
  exact (f15_r3_eq (d := gf a) call k).trans (by subst e; kernel_rfl)
noncomputable def f15_sh (call : Handle) (k : Nat) (p0 : Value) (H : GH) : M (Value × GH) :=
  onV (gLoad Tryd.prog 5 (.pointer (some ⟨H.n, 0, none⟩)) (GH.push (GH.push H (.row (Value.cells p0).toList 52 false)) (.row [(.int .u8 0), (.int .u8 0), (.int .u8 0), (.int .i64 0), (.int .u8 0), (.int .i64 0)] 48 false))) fun v1 =>
  onV ((oBin Tryd.prog .rem 5 v1 (.int .u8 8)).filter closed) fun v2 =>
  onV ((oBin Tryd.prog .add 5 (.int .u8 1) v2).filter closed) fun v3 =>
  onV (oBuild Tryd.prog 48 [(0, v3)]) fun v4 =>
  onH (gStore Tryd.prog 48 (.pointer (some ⟨(GH.push (GH.push H (.row (Value.cells p0).toList 52 false)) (.row [(.int .u8 0), (.int .u8 0), (.int .u8 0), (.int .i64 0), (.int .u8 0), (.int .i64 0)] 48 false)).n, 0, none⟩)) v4 (GH.push (GH.push (GH.push H (.row (Value.cells p0).toList 52 false)) (.row [(.int .u8 0), (.int .u8 0), (.int .u8 0), (.int .i64 0), (.int .u8 0), (.int .i64 0)] 48 false)) (.row [(.int .u8 0), (.int .u8 0), (.int .u8 0), (.int .i64 0), (.int .u8 0), (.int .i64 0)] 48 false))) fun H5 =>
  (f15_r2 call k (.pointer (some ⟨H.n, 0, none⟩)) (.pointer (some ⟨(GH.push H (.row (Value.cells p0).toList 52 false)).n, 0, none⟩)) (.pointer (some ⟨(GH.push (GH.push H (.row (Value.cells p0).toList 52 false)) (.row [(.int .u8 0), (.int .u8 0), (.int .u8 0), (.int .i64 0), (.int .u8 0), (.int .i64 0)] 48 false)).n, 0, none⟩)) H5)
theorem f15_run (call : Handle) (k : Nat) (p0 : Value) (H : GH) : g15 call k [] (FG 64 (fun _ => undef) [(0, p0)]) H (hFin Tryd.prog Tryd.f15) = f15_sh call k p0 H := by
  unfold f15_sh
  rw [n15_0]
  rw [n15_1]
  rw [s15_0]
  rw [hSeq_n]
  rw [n15_2]
  rw [n15_3]
  rw [s15_1]
  refine onV_c fun v1 => ?_
  refine onV_c fun v2 => ?_
  refine onV_c fun v3 => ?_
  refine onV_c fun v4 => ?_
  refine onH_c fun H5 => ?_
  rw [hSeq_n]
  rw [n15_4]
  generalize e : (FG 64 (fun _ => undef) [(3, (.pointer (some ⟨(GH.push (GH.push H (.row (Value.cells p0).toList 52 false)) (.row [(.int .u8 0), (.int .u8 0), (.int .u8 0), (.int .i64 0), (.int .u8 0), (.int .i64 0)] 48 false)).n, 0, none⟩))), (9, v4), (8, v3), (7, v2), (6, v1), (5, (.pointer (some ⟨H.n, 0, none⟩))), (2, (.pointer (some ⟨(GH.push H (.row (Value.cells p0).toList 52 false)).n, 0, none⟩))), (1, (.pointer (some ⟨H.n, 0, none⟩))), (0, p0)]) = a
  rw [show a = (FF 64 (gf a)) from (FF_gf (by subst e; exact FG_len)).symm]
  exact (f15_r2_eq (d := gf a) call k).trans (by subst e; kernel_rfl)
theorem f15_eq (call : Handle) (k : Nat) (p0 : Value) (H : GH) : gFunc Tryd.prog call k Tryd.f15 [p0] H = f15_sh call k p0 H :=
  Eq.trans (by kernel_rfl) (f15_run call k p0 H)
end
end Go.Proofs.YtdhadannleldiaaDoor
