/- PRINTED by sh.py: shallow forms of functions of the program, each proved equal to what the ghost machine makes of its code. -/
import Derived.Test.YthicilkmjamefaaGkTop
import Derived.Test.YthicilkmjamefaaProg
namespace Go.Proofs.Ythicilkmjamefaa
open Go.Gh
set_option linter.unusedVariables false
set_option linter.unusedSimpArgs false
set_option maxRecDepth 100000
noncomputable def g35 {β : Type} (call : Handle) (k : Nat) (p : List Nat) : GA → GH → Kont β → M β := gCode Try.prog call k (fAt Try.f35 p)
noncomputable def o35 {β : Type} (d : Nat) (call : Handle) (p : List Nat) (i : Nat) : GA → GH → (GA → GH → M β) → M β := gOps Try.prog d call (opsAt (fAt Try.f35 p)) ((opsAt (fAt Try.f35 p)).drop i)
noncomputable def t35 {β : Type} (d : Nat) (call : Handle) (p : List Nat) (i n : Nat) : GA → GH → (GA → GH → M β) → M β := gOps Try.prog d call (opsAt (fAt Try.f35 p)) (((opsAt (fAt Try.f35 p)).drop i).take n)
theorem o35_s {β : Type} {d : Nat} {call : Handle} {p : List Nat} {a : GA} {H : GH} {K : GA → GH → M β} (i n : Nat) : o35 d call p i a H K = t35 d call p i n a H fun a H => o35 d call p (i + n) a H K := gOps_split i n
section
variable {β : Type} {call : Handle} {k : Nat} {a : GA} {K : Kont β} {K' : GA → GH → M β}
variable {d : Nat → Value} {xg : Value}
variable {p0 p1 : Value}
variable {v1 v2 v3 v4 v6 v7 v9 : Value}
variable {H H3 H8 : GH}
theorem n35_0 : g35 call k [] a H K = g35 call k [0] a H (hSeq (g35 call k [1]) K) := at_seq (by kernel_rfl)
theorem n35_1 : g35 call k [0] a H K = o35 0 call [0] 0 a H (K .normal) := at_region (by kernel_rfl)
theorem n35_2 : g35 call k [1] a H K = g35 call k [1,0] a H (hSeq (g35 call k [1,1]) K) := at_seq (by kernel_rfl)
theorem n35_3 : g35 call k [1,0] a H K = g35 call k [1,0,0] a H (hSeq (g35 call k [1,0,1]) K) := at_seq (by kernel_rfl)
theorem n35_4 : g35 call k [1,0,0] a H K = o35 0 call [1,0,0] 0 a H (K .normal) := at_region (by kernel_rfl)
theorem n35_5 : g35 call k [1,0,1] a H K = g35 call k [1,0,1,0] a H (hBlock 0 K) := at_block (by kernel_rfl)
theorem n35_6 : g35 call k [1,0,1,0] a H K = g35 call k [1,0,1,0,0] a H (hSeq (g35 call k [1,0,1,0,1]) K) := at_seq (by kernel_rfl)
theorem n35_7 : g35 call k [1,0,1,0,0] a H K = o35 0 call [1,0,1,0,0] 0 a H (K .normal) := at_region (by kernel_rfl)
theorem n35_8 : g35 call k [1,0,1,0,1] a H K = onBool (asB (GA.eval a (.tmp 9))) (g35 call k [1,0,1,0,1,0] a H K) (g35 call k [1,0,1,0,1,1] a H K) := at_cond (by kernel_rfl)
theorem n35_9 : g35 call k [1,0,1,0,1,0] a H K = g35 call k [1,0,1,0,1,0,0] a H (hSeq (g35 call k [1,0,1,0,1,0,1]) K) := at_seq (by kernel_rfl)
theorem n35_10 : g35 call k [1,0,1,0,1,0,0] a H K = o35 0 call [1,0,1,0,1,0,0] 0 a H (K .normal) := at_region (by kernel_rfl)
theorem n35_11 : g35 call k [1,0,1,0,1,0,1] a H K = K .ret a H := at_ret (by kernel_rfl)
theorem n35_12 : g35 call k [1,0,1,0,1,1] a H K = g35 call k [1,0,1,0,1,1,0] a H (hSeq (g35 call k [1,0,1,0,1,1,1]) K) := at_seq (by kernel_rfl)
theorem n35_13 : g35 call k [1,0,1,0,1,1,0] a H K = o35 0 call [1,0,1,0,1,1,0] 0 a H (K .normal) := at_region (by kernel_rfl)
theorem n35_14 : g35 call k [1,0,1,0,1,1,1] a H K = onBool (asB (GA.eval a (.tmp 14))) (g35 call k [1,0,1,0,1,1,1,0] a H K) (g35 call k [1,0,1,0,1,1,1,1] a H K) := at_cond (by kernel_rfl)
theorem n35_15 : g35 call k [1,0,1,0,1,1,1,0] a H K = g35 call k [1,0,1,0,1,1,1,0,0] a H (hSeq (g35 call k [1,0,1,0,1,1,1,0,1]) K) := at_seq (by kernel_rfl)
theorem n35_16 : g35 call k [1,0,1,0,1,1,1,0,0] a H K = o35 0 call [1,0,1,0,1,1,1,0,0] 0 a H (K .normal) := at_region (by kernel_rfl)
theorem n35_17 : g35 call k [1,0,1,0,1,1,1,0,1] a H K = K .ret a H := at_ret (by kernel_rfl)
theorem n35_18 : g35 call k [1,0,1,0,1,1,1,1] a H K = g35 call k [1,0,1,0,1,1,1,1,0] a H (hSeq (g35 call k [1,0,1,0,1,1,1,1,1]) K) := at_seq (by kernel_rfl)
theorem n35_19 : g35 call k [1,0,1,0,1,1,1,1,0] a H K = o35 0 call [1,0,1,0,1,1,1,1,0] 0 a H (K .normal) := at_region (by kernel_rfl)
theorem n35_20 : g35 call k [1,0,1,0,1,1,1,1,1] a H K = onBool (asB (GA.eval a (.tmp 19))) (g35 call k [1,0,1,0,1,1,1,1,1,0] a H K) (g35 call k [1,0,1,0,1,1,1,1,1,1] a H K) := at_cond (by kernel_rfl)
theorem n35_21 : g35 call k [1,0,1,0,1,1,1,1,1,0] a H K = g35 call k [1,0,1,0,1,1,1,1,1,0,0] a H (hSeq (g35 call k [1,0,1,0,1,1,1,1,1,0,1]) K) := at_seq (by kernel_rfl)
theorem n35_22 : g35 call k [1,0,1,0,1,1,1,1,1,0,0] a H K = o35 0 call [1,0,1,0,1,1,1,1,1,0,0] 0 a H (K .normal) := at_region (by kernel_rfl)
theorem n35_23 : g35 call k [1,0,1,0,1,1,1,1,1,0,1] a H K = K .ret a H := at_ret (by kernel_rfl)
theorem n35_24 : g35 call k [1,0,1,0,1,1,1,1,1,1] a H K = K .normal a H := at_skip (by kernel_rfl)
theorem n35_25 : g35 call k [1,1] a H K = g35 call k [1,1,0] a H (hSeq (g35 call k [1,1,1]) K) := at_seq (by kernel_rfl)
theorem n35_26 : g35 call k [1,1,0] a H K = o35 2 call [1,1,0] 0 a H (K .normal) := at_region (by kernel_rfl)
theorem n35_27 : g35 call k [1,1,1] a H K = g35 call k [1,1,1,0] a H (hSeq (g35 call k [1,1,1,1]) K) := at_seq (by kernel_rfl)
theorem n35_28 : g35 call k [1,1,1,0] a H K = o35 0 call [1,1,1,0] 0 a H (K .normal) := at_region (by kernel_rfl)
theorem n35_29 : g35 call k [1,1,1,1] a H K = K .ret a H := at_ret (by kernel_rfl)
theorem s35_0 : o35 0 call [0] 0 (FG 34 (fun _ => undef) [(1, p1), (0, p0)]) H K' =
  K' (FG 34 (fun _ => undef) [(5, (.int .i64 0)), (4, (.pointer (some ⟨(GH.push (GH.push H (.row (Value.cells p0).toList 88 false)) (.row (Value.cells p1).toList 93 false)).n, 0, none⟩))), (3, (.pointer (some ⟨(GH.push H (.row (Value.cells p0).toList 88 false)).n, 0, none⟩))), (2, (.pointer (some ⟨H.n, 0, none⟩))), (1, p1), (0, p0)]) (GH.push (GH.push (GH.push H (.row (Value.cells p0).toList 88 false)) (.row (Value.cells p1).toList 93 false)) (.row [(.slice none 0 0), (.slice none 0 0)] 88 false)) := by kernel_rfl
theorem s35_1 : o35 0 call [1,0,0] 0 (FG 34 (fun _ => undef) [(5, (.int .i64 0)), (4, (.pointer (some ⟨(GH.push (GH.push H (.row (Value.cells p0).toList 88 false)) (.row (Value.cells p1).toList 93 false)).n, 0, none⟩))), (3, (.pointer (some ⟨(GH.push H (.row (Value.cells p0).toList 88 false)).n, 0, none⟩))), (2, (.pointer (some ⟨H.n, 0, none⟩))), (1, p1), (0, p0)]) (GH.push (GH.push (GH.push H (.row (Value.cells p0).toList 88 false)) (.row (Value.cells p1).toList 93 false)) (.row [(.slice none 0 0), (.slice none 0 0)] 88 false)) K' =
  onV (gLoad Try.prog 88 (.pointer (some ⟨H.n, 0, none⟩)) (GH.push (GH.push (GH.push H (.row (Value.cells p0).toList 88 false)) (.row (Value.cells p1).toList 93 false)) (.row [(.slice none 0 0), (.slice none 0 0)] 88 false))) fun v1 =>
  onCall 0 call (.func (.func 34) #[] #[]) [v1] (GH.push (GH.push (GH.push H (.row (Value.cells p0).toList 88 false)) (.row (Value.cells p1).toList 93 false)) (.row [(.slice none 0 0), (.slice none 0 0)] 88 false)) fun v2 H3 =>
  K' (FG 34 (fun _ => undef) [(6, v2), (8, v2), (7, v1), (5, (.int .i64 0)), (4, (.pointer (some ⟨(GH.push (GH.push H (.row (Value.cells p0).toList 88 false)) (.row (Value.cells p1).toList 93 false)).n, 0, none⟩))), (3, (.pointer (some ⟨(GH.push H (.row (Value.cells p0).toList 88 false)).n, 0, none⟩))), (2, (.pointer (some ⟨H.n, 0, none⟩))), (1, p1), (0, p0)]) H3 := by kernel_rfl
theorem s35_2 : o35 0 call [1,0,1,0,0] 0 (FG 34 (fun _ => undef) [(6, v2), (8, v2), (7, v1), (5, (.int .i64 0)), (4, (.pointer (some ⟨(GH.push (GH.push H (.row (Value.cells p0).toList 88 false)) (.row (Value.cells p1).toList 93 false)).n, 0, none⟩))), (3, (.pointer (some ⟨(GH.push H (.row (Value.cells p0).toList 88 false)).n, 0, none⟩))), (2, (.pointer (some ⟨H.n, 0, none⟩))), (1, p1), (0, p0)]) H3 K' =
  onV ((oBin Try.prog .neq 27 v2 (.int .i64 0)).filter closed) fun v4 =>
  K' (FG 34 (fun _ => undef) [(9, v4), (11, v4), (10, v2), (6, v2), (8, v2), (7, v1), (5, (.int .i64 0)), (4, (.pointer (some ⟨(GH.push (GH.push H (.row (Value.cells p0).toList 88 false)) (.row (Value.cells p1).toList 93 false)).n, 0, none⟩))), (3, (.pointer (some ⟨(GH.push H (.row (Value.cells p0).toList 88 false)).n, 0, none⟩))), (2, (.pointer (some ⟨H.n, 0, none⟩))), (1, p1), (0, p0)]) H3 := by kernel_rfl
theorem s35_3 : o35 0 call [1,0,1,0,1,0,0] 0 (FG 34 (fun _ => undef) [(9, v4), (11, v4), (10, v2), (6, v2), (8, v2), (7, v1), (5, (.int .i64 0)), (4, (.pointer (some ⟨(GH.push (GH.push H (.row (Value.cells p0).toList 88 false)) (.row (Value.cells p1).toList 93 false)).n, 0, none⟩))), (3, (.pointer (some ⟨(GH.push H (.row (Value.cells p0).toList 88 false)).n, 0, none⟩))), (2, (.pointer (some ⟨H.n, 0, none⟩))), (1, p1), (0, p0)]) H3 K' =
  onH (gStore Try.prog 88 (.pointer (some ⟨(GH.push (GH.push H (.row (Value.cells p0).toList 88 false)) (.row (Value.cells p1).toList 93 false)).n, 0, none⟩)) (.agg #[(.slice none 0 0), (.slice none 0 0)]) H3) fun H5 =>
  K' (FG 34 (fun _ => undef) [(5, v2), (13, v2), (12, (.agg #[(.slice none 0 0), (.slice none 0 0)])), (9, v4), (11, v4), (10, v2), (6, v2), (8, v2), (7, v1), (5, (.int .i64 0)), (4, (.pointer (some ⟨(GH.push (GH.push H (.row (Value.cells p0).toList 88 false)) (.row (Value.cells p1).toList 93 false)).n, 0, none⟩))), (3, (.pointer (some ⟨(GH.push H (.row (Value.cells p0).toList 88 false)).n, 0, none⟩))), (2, (.pointer (some ⟨H.n, 0, none⟩))), (1, p1), (0, p0)]) H5 := by kernel_rfl
theorem s35_4 : o35 0 call [1,0,1,0,1,1,0] 0 (FG 34 (fun _ => undef) [(9, v4), (11, v4), (10, v2), (6, v2), (8, v2), (7, v1), (5, (.int .i64 0)), (4, (.pointer (some ⟨(GH.push (GH.push H (.row (Value.cells p0).toList 88 false)) (.row (Value.cells p1).toList 93 false)).n, 0, none⟩))), (3, (.pointer (some ⟨(GH.push H (.row (Value.cells p0).toList 88 false)).n, 0, none⟩))), (2, (.pointer (some ⟨H.n, 0, none⟩))), (1, p1), (0, p0)]) H3 K' =
  onV (gLoad Try.prog 93 (.pointer (some ⟨(GH.push H (.row (Value.cells p0).toList 88 false)).n, 0, none⟩)) H3) fun v6 =>
  onCall 0 call (.func (.func 94) #[] #[]) [v6] H3 fun v7 H8 =>
  onV ((oUn Try.prog .not v7).filter closed) fun v9 =>
  K' (FG 34 (fun _ => undef) [(14, v9), (17, v9), (16, v7), (15, v6), (9, v4), (11, v4), (10, v2), (6, v2), (8, v2), (7, v1), (5, (.int .i64 0)), (4, (.pointer (some ⟨(GH.push (GH.push H (.row (Value.cells p0).toList 88 false)) (.row (Value.cells p1).toList 93 false)).n, 0, none⟩))), (3, (.pointer (some ⟨(GH.push H (.row (Value.cells p0).toList 88 false)).n, 0, none⟩))), (2, (.pointer (some ⟨H.n, 0, none⟩))), (1, p1), (0, p0)]) H8 := by kernel_rfl
theorem s35_5 : o35 0 call [1,0,1,0,1,1,1,0,0] 0 (FG 34 (fun _ => undef) [(14, v9), (17, v9), (16, v7), (15, v6), (9, v4), (11, v4), (10, v2), (6, v2), (8, v2), (7, v1), (5, (.int .i64 0)), (4, (.pointer (some ⟨(GH.push (GH.push H (.row (Value.cells p0).toList 88 false)) (.row (Value.cells p1).toList 93 false)).n, 0, none⟩))), (3, (.pointer (some ⟨(GH.push H (.row (Value.cells p0).toList 88 false)).n, 0, none⟩))), (2, (.pointer (some ⟨H.n, 0, none⟩))), (1, p1), (0, p0)]) H8 K' =
  onH (gStore Try.prog 88 (.pointer (some ⟨(GH.push (GH.push H (.row (Value.cells p0).toList 88 false)) (.row (Value.cells p1).toList 93 false)).n, 0, none⟩)) (.agg #[(.slice none 0 0), (.slice none 0 0)]) H8) fun H10 =>
  K' (FG 34 (fun _ => undef) [(5, (.int .i64 1)), (18, (.agg #[(.slice none 0 0), (.slice none 0 0)])), (14, v9), (17, v9), (16, v7), (15, v6), (9, v4), (11, v4), (10, v2), (6, v2), (8, v2), (7, v1), (5, (.int .i64 0)), (4, (.pointer (some ⟨(GH.push (GH.push H (.row (Value.cells p0).toList 88 false)) (.row (Value.cells p1).toList 93 false)).n, 0, none⟩))), (3, (.pointer (some ⟨(GH.push H (.row (Value.cells p0).toList 88 false)).n, 0, none⟩))), (2, (.pointer (some ⟨H.n, 0, none⟩))), (1, p1), (0, p0)]) H10 := by kernel_rfl
theorem s35_6 : o35 0 call [1,0,1,0,1,1,1,1,0] 0 (FF 34 d) H K' =
  onV (oFieldAddr Try.prog 88 (d 2) 0) fun v1 =>
  onV (gLoad Try.prog 85 v1 H) fun v2 =>
  onV (oLen Try.prog 85 v2) fun v3 =>
  onV ((oBin Try.prog .eql 3 v3 (.int .i64 512)).filter closed) fun v4 =>
  K' (FG 34 d [(19, v4), (23, v4), (22, v3), (21, v2), (20, v1)]) H := by kernel_rfl
theorem s35_7 : o35 0 call [1,0,1,0,1,1,1,1,1,0,0] 0 (FG 34 d [(19, v4), (23, v4), (22, v3), (21, v2), (20, v1)]) H K' =
  onH (gStore Try.prog 88 (d 4) (.agg #[(.slice none 0 0), (.slice none 0 0)]) H) fun H5 =>
  K' (FG 34 d [(5, (.int .i64 9)), (24, (.agg #[(.slice none 0 0), (.slice none 0 0)])), (19, v4), (23, v4), (22, v3), (21, v2), (20, v1)]) H5 := by kernel_rfl
theorem s35_8 : o35 2 call [1,1,0] 0 (FG 34 d [(19, v4), (23, v4), (22, v3), (21, v2), (20, v1)]) H K' =
  onV (oFieldAddr Try.prog 88 (d 2) 0) fun v6 =>
  onV (gLoad Try.prog 85 v6 H) fun v7 =>
  onCall 2 call (.func (.func 98) #[] #[]) [v7] H fun v8 H9 =>
  onV (gLoad Try.prog 93 (d 3) H9) fun v10 =>
  onVH (gBuildSlice Try.prog 85 1 [(0, v10)] H9) fun v11 H12 =>
  onVH (gAppend Try.prog 85 85 v8 v11 H12) fun v13 H14 =>
  onV (oFieldAddr Try.prog 88 (d 2) 0) fun v15 =>
  onH (gStore Try.prog 85 v15 v13 H14) fun H16 =>
  K' (FG 34 d [(31, v15), (30, v13), (29, v11), (28, v10), (27, v8), (26, v7), (25, v6), (19, v4), (23, v4), (22, v3), (21, v2), (20, v1)]) H16 := by kernel_rfl
theorem s35_9 : o35 0 call [1,1,1,0] 0 (FF 34 d) H K' =
  onV (gLoad Try.prog 88 (d 2) H) fun v1 =>
  onCall 0 call (.func (.func 99) #[] #[]) [v1] H fun v2 H3 =>
  onH (gStore Try.prog 88 (d 4) v2 H3) fun H4 =>
  K' (FG 34 d [(5, (.int .i64 0)), (33, v2), (32, v1)]) H4 := by kernel_rfl
noncomputable def f35_r9 (call : Handle) (k : Nat) (x2 x4 : Value) (H : GH) : M (Value × GH) :=
  onV (gLoad Try.prog 88 x2 H) fun v1 =>
  onCall 0 call (.func (.func 99) #[] #[]) [v1] H fun v2 H3 =>
  onH (gStore Try.prog 88 x4 v2 H3) fun H4 =>
  onV (gResL Try.prog H4 [(x4, some 88), ((.int .i64 0), none)]) fun v => some [(v, H4)]
theorem f35_r9_eq (call : Handle) (k : Nat) : g35 call k [1,1,1,0] (FF 34 d) H (hSeq (g35 call k [1,1,1,1]) (hFin Try.prog Try.f35)) = f35_r9 call k (d 2) (d 4) H := by
  unfold f35_r9
  rw [n35_28]
  rw [s35_9]
  refine onV_c fun v1 => ?_
  refine onCall_c fun v2 H3 => ?_
  refine onH_c fun H4 => ?_
  rw [hSeq_n]
  rw [n35_29]
  kernel_rfl
noncomputable def f35_r6 (call : Handle) (k : Nat) (x2 x3 x4 : Value) (H : GH) : M (Value × GH) :=
  onV (oFieldAddr Try.prog 88 x2 0) fun v1 =>
  onV (gLoad Try.prog 85 v1 H) fun v2 =>
  onV (oLen Try.prog 85 v2) fun v3 =>
  onV ((oBin Try.prog .eql 3 v3 (.int .i64 512)).filter closed) fun v4 =>
  onBool (asB v4)
  (onH (gStore Try.prog 88 x4 (.agg #[(.slice none 0 0), (.slice none 0 0)]) H) fun H5 =>
  onV (gResL Try.prog H5 [(x4, some 88), ((.int .i64 9), none)]) fun v => some [(v, H5)])
  (onV (oFieldAddr Try.prog 88 x2 0) fun v6 =>
  onV (gLoad Try.prog 85 v6 H) fun v7 =>
  onCall 2 call (.func (.func 98) #[] #[]) [v7] H fun v8 H9 =>
  onV (gLoad Try.prog 93 x3 H9) fun v10 =>
  onVH (gBuildSlice Try.prog 85 1 [(0, v10)] H9) fun v11 H12 =>
  onVH (gAppend Try.prog 85 85 v8 v11 H12) fun v13 H14 =>
  onV (oFieldAddr Try.prog 88 x2 0) fun v15 =>
  onH (gStore Try.prog 85 v15 v13 H14) fun H16 =>
  (f35_r9 call k x2 x4 H16))
theorem f35_r6_eq (call : Handle) (k : Nat) : g35 call k [1,0,1,0,1,1,1,1,0] (FF 34 d) H (hSeq (g35 call k [1,0,1,0,1,1,1,1,1]) (hBlock 0 (hSeq (g35 call k [1,1]) (hFin Try.prog Try.f35)))) = f35_r6 call k (d 2) (d 3) (d 4) H := by
  unfold f35_r6
  rw [n35_19]
  rw [s35_6]
  refine onV_c fun v1 => ?_
  refine onV_c fun v2 => ?_
  refine onV_c fun v3 => ?_
  refine onV_c fun v4 => ?_
  rw [hSeq_n]
  rw [n35_20]
  refine onBool_cc (by kernel_rfl) ?_ ?_
  · rw [n35_21]
    rw [n35_22]
    rw [s35_7]
    refine onH_c fun H5 => ?_
    rw [hSeq_n]
    rw [n35_23]
    rw [hBlock_r, hSeq_r]
    kernel_rfl
  · rw [n35_24]
    rw [hBlock_n]
    rw [hSeq_n]
    rw [n35_25]
    rw [n35_26]
    rw [s35_8]
    refine onV_c fun v6 => ?_
    refine onV_c fun v7 => ?_
    refine onCall_c fun v8 H9 => ?_
    refine onV_c fun v10 => ?_
    refine onVH_c fun v11 H12 => ?_
    refine onVH_c fun v13 H14 => ?_
    refine onV_c fun v15 => ?_
    refine onH_c fun H16 => ?_
    rw [hSeq_n]
    rw [n35_27]
    generalize e : (FG 34 d [(31, v15), (30, v13), (29, v11), (28, v10), (27, v8), (26, v7), (25, v6), (19, v4), (23, v4), (22, v3), (21, v2), (20, v1)]) = a
    rw [show a = (FF 34 (gf a)) from (FF_gf (by subst e; exact FG_len)).symm]
    exact (f35_r9_eq (d := gf a) call k).trans (by subst e; kernel_rfl)
noncomputable def f35_sh (call : Handle) (k : Nat) (p0 p1 : Value) (H : GH) : M (Value × GH) :=
  onV (gLoad Try.prog 88 (.pointer (some ⟨H.n, 0, none⟩)) (GH.push (GH.push (GH.push H (.row (Value.cells p0).toList 88 false)) (.row (Value.cells p1).toList 93 false)) (.row [(.slice none 0 0), (.slice none 0 0)] 88 false))) fun v1 =>
  onCall 0 call (.func (.func 34) #[] #[]) [v1] (GH.push (GH.push (GH.push H (.row (Value.cells p0).toList 88 false)) (.row (Value.cells p1).toList 93 false)) (.row [(.slice none 0 0), (.slice none 0 0)] 88 false)) fun v2 H3 =>
  onV ((oBin Try.prog .neq 27 v2 (.int .i64 0)).filter closed) fun v4 =>
  onBool (asB v4)
  (onH (gStore Try.prog 88 (.pointer (some ⟨(GH.push (GH.push H (.row (Value.cells p0).toList 88 false)) (.row (Value.cells p1).toList 93 false)).n, 0, none⟩)) (.agg #[(.slice none 0 0), (.slice none 0 0)]) H3) fun H5 =>
  onV (gResL Try.prog H5 [((.pointer (some ⟨(GH.push (GH.push H (.row (Value.cells p0).toList 88 false)) (.row (Value.cells p1).toList 93 false)).n, 0, none⟩)), some 88), (v2, none)]) fun v => some [(v, H5)])
  (onV (gLoad Try.prog 93 (.pointer (some ⟨(GH.push H (.row (Value.cells p0).toList 88 false)).n, 0, none⟩)) H3) fun v6 =>
  onCall 0 call (.func (.func 94) #[] #[]) [v6] H3 fun v7 H8 =>
  onV ((oUn Try.prog .not v7).filter closed) fun v9 =>
  onBool (asB v9)
  (onH (gStore Try.prog 88 (.pointer (some ⟨(GH.push (GH.push H (.row (Value.cells p0).toList 88 false)) (.row (Value.cells p1).toList 93 false)).n, 0, none⟩)) (.agg #[(.slice none 0 0), (.slice none 0 0)]) H8) fun H10 =>
  onV (gResL Try.prog H10 [((.pointer (some ⟨(GH.push (GH.push H (.row (Value.cells p0).toList 88 false)) (.row (Value.cells p1).toList 93 false)).n, 0, none⟩)), some 88), ((.int .i64 1), none)]) fun v => some [(v, H10)])
  ((f35_r6 call k (.pointer (some ⟨H.n, 0, none⟩)) (.pointer (some ⟨(GH.push H (.row (Value.cells p0).toList 88 false)).n, 0, none⟩)) (.pointer (some ⟨(GH.push (GH.push H (.row (Value.cells p0).toList 88 false)) (.row (Value.cells p1).toList 93 false)).n, 0, none⟩)) H8)))
theorem f35_run (call : Handle) (k : Nat) (p0 p1 : Value) (H : GH) : g35 call k [] (FG 34 (fun _ => undef) [(1, p1), (0, p0)]) H (hFin Try.prog Try.f35) = f35_sh call k p0 p1 H := by
  unfold f35_sh
  rw [n35_0]
  rw [n35_1]
  rw [s35_0]
  rw [hSeq_n]
  rw [n35_2]
  rw [n35_3]
  rw [n35_4]
  rw [s35_1]
  refine onV_c fun v1 => ?_
  refine onCall_c fun v2 H3 => ?_
  rw [hSeq_n]
  rw [n35_5]
  rw [n35_6]
  rw [n35_7]
  rw [s35_2]
  refine onV_c fun v4 => ?_
  rw [hSeq_n]
  rw [n35_8]
  refine onBool_cc (by kernel_rfl) ?_ ?_
  · rw [n35_9]
    rw [n35_10]
    rw [s35_3]
    refine onH_c fun H5 => ?_
    rw [hSeq_n]
    rw [n35_11]
    rw [hBlock_r, hSeq_r]
    kernel_rfl
  · rw [n35_12]
    rw [n35_13]
    rw [s35_4]
    refine onV_c fun v6 => ?_
    refine onCall_c fun v7 H8 => ?_
    refine onV_c fun v9 => ?_
    rw [hSeq_n]
    rw [n35_14]
    refine onBool_cc (by kernel_rfl) ?_ ?_
    · rw [n35_15]
      rw [n35_16]
      rw [s35_5]
      refine onH_c fun H10 => ?_
      rw [hSeq_n]
      rw [n35_17]
      rw [hBlock_r, hSeq_r]
      kernel_rfl
    · rw [n35_18]
      generalize e : (FG 34 (fun _ => undef) [(14, v9), (17, v9), (16, v7), (15, v6), (9, v4), (11, v4), (10, v2), (6, v2), (8, v2), (7, v1), (5, (.int .i64 0)), (4, (.pointer (some ⟨(GH.push (GH.push H (.row (Value.cells p0).toList 88 false)) (.row (Value.cells p1).toList 93 false)).n, 0, none⟩))), (3, (.pointer (some ⟨(GH.push H (.row (Value.cells p0).toList 88 false)).n, 0, none⟩))), (2, (.pointer (some ⟨H.n, 0, none⟩))), (1, p1), (0, p0)]) = a
      rw [show a = (FF 34 (gf a)) from (FF_gf (by subst e; exact FG_len)).symm]
      exact (f35_r6_eq (d := gf a) call k).trans (by subst e; kernel_rfl)
theorem f35_eq (call : Handle) (k : Nat) (p0 p1 : Value) (H : GH) : gFunc Try.prog call k Try.f35 [p0, p1] H = f35_sh call k p0 p1 H :=
  Eq.trans (by kernel_rfl) (f35_run call k p0 p1 H)
end
noncomputable def g36 {β : Type} (call : Handle) (k : Nat) (p : List Nat) : GA → GH → Kont β → M β := gCode Try.prog call k (fAt Try.f36 p)
noncomputable def o36 {β : Type} (d : Nat) (call : Handle) (p : List Nat) (i : Nat) : GA → GH → (GA → GH → M β) → M β := gOps Try.prog d call (opsAt (fAt Try.f36 p)) ((opsAt (fAt Try.f36 p)).drop i)
noncomputable def t36 {β : Type} (d : Nat) (call : Handle) (p : List Nat) (i n : Nat) : GA → GH → (GA → GH → M β) → M β := gOps Try.prog d call (opsAt (fAt Try.f36 p)) (((opsAt (fAt Try.f36 p)).drop i).take n)
theorem o36_s {β : Type} {d : Nat} {call : Handle} {p : List Nat} {a : GA} {H : GH} {K : GA → GH → M β} (i n : Nat) : o36 d call p i a H K = t36 d call p i n a H fun a H => o36 d call p (i + n) a H K := gOps_split i n
section
variable {β : Type} {call : Handle} {k : Nat} {a : GA} {K : Kont β} {K' : GA → GH → M β}
variable {d : Nat → Value} {xg : Value}
variable {p0 p1 : Value}
variable {v1 v2 v3 v4 v5 v6 v7 v8 v9 : Value}
variable {H H2 H3 H4 H5 H7 H9 : GH}
theorem n36_0 : g36 call k [] a H K = g36 call k [0] a H (hSeq (g36 call k [1]) K) := at_seq (by kernel_rfl)
theorem n36_1 : g36 call k [0] a H K = o36 0 call [0] 0 a H (K .normal) := at_region (by kernel_rfl)
theorem n36_2 : g36 call k [1] a H K = g36 call k [1,0] a H (hSeq (g36 call k [1,1]) K) := at_seq (by kernel_rfl)
theorem n36_3 : g36 call k [1,0] a H K = g36 call k [1,0,0] a H (hSeq (g36 call k [1,0,1]) K) := at_seq (by kernel_rfl)
theorem n36_4 : g36 call k [1,0,0] a H K = o36 0 call [1,0,0] 0 a H (K .normal) := at_region (by kernel_rfl)
theorem n36_5 : g36 call k [1,0,1] a H K = g36 call k [1,0,1,0] a H (hSeq (g36 call k [1,0,1,1]) K) := at_seq (by kernel_rfl)
theorem n36_6 : g36 call k [1,0,1,0] a H K = o36 0 call [1,0,1,0] 0 a H (K .normal) := at_region (by kernel_rfl)
theorem n36_7 : g36 call k [1,0,1,1] a H K = onBool (asB (GA.eval a (.tmp 17))) (g36 call k [1,0,1,1,0] a H K) (g36 call k [1,0,1,1,1] a H K) := at_cond (by kernel_rfl)
theorem n36_8 : g36 call k [1,0,1,1,0] a H K = g36 call k [1,0,1,1,0,0] a H (hSeq (g36 call k [1,0,1,1,0,1]) K) := at_seq (by kernel_rfl)
theorem n36_9 : g36 call k [1,0,1,1,0,0] a H K = o36 0 call [1,0,1,1,0,0] 0 a H (K .normal) := at_region (by kernel_rfl)
theorem n36_10 : g36 call k [1,0,1,1,0,1] a H K = K .ret a H := at_ret (by kernel_rfl)
theorem n36_11 : g36 call k [1,0,1,1,1] a H K = K .normal a H := at_skip (by kernel_rfl)
theorem n36_12 : g36 call k [1,1] a H K = g36 call k [1,1,0] a H (hSeq (g36 call k [1,1,1]) K) := at_seq (by kernel_rfl)
theorem n36_13 : g36 call k [1,1,0] a H K = g36 call k [1,1,0,0] a H (hSeq (g36 call k [1,1,0,1]) K) := at_seq (by kernel_rfl)
theorem n36_14 : g36 call k [1,1,0,0] a H K = o36 0 call [1,1,0,0] 0 a H (K .normal) := at_region (by kernel_rfl)
theorem n36_15 : g36 call k [1,1,0,1] a H K = onBool (asB (GA.eval a (.tmp 21))) (g36 call k [1,1,0,1,0] a H K) (g36 call k [1,1,0,1,1] a H K) := at_cond (by kernel_rfl)
theorem n36_16 : g36 call k [1,1,0,1,0] a H K = g36 call k [1,1,0,1,0,0] a H (hSeq (g36 call k [1,1,0,1,0,1]) K) := at_seq (by kernel_rfl)
theorem n36_17 : g36 call k [1,1,0,1,0,0] a H K = o36 0 call [1,1,0,1,0,0] 0 a H (K .normal) := at_region (by kernel_rfl)
theorem n36_18 : g36 call k [1,1,0,1,0,1] a H K = K .ret a H := at_ret (by kernel_rfl)
theorem n36_19 : g36 call k [1,1,0,1,1] a H K = K .normal a H := at_skip (by kernel_rfl)
theorem n36_20 : g36 call k [1,1,1] a H K = g36 call k [1,1,1,0] a H (hSeq (g36 call k [1,1,1,1]) K) := at_seq (by kernel_rfl)
theorem n36_21 : g36 call k [1,1,1,0] a H K = g36 call k [1,1,1,0,0] a H (hSeq (g36 call k [1,1,1,0,1]) K) := at_seq (by kernel_rfl)
theorem n36_22 : g36 call k [1,1,1,0,0] a H K = o36 0 call [1,1,1,0,0] 0 a H (K .normal) := at_region (by kernel_rfl)
theorem n36_23 : g36 call k [1,1,1,0,1] a H K = g36 call k [1,1,1,0,1,0] a H (hBlock 0 K) := at_block (by kernel_rfl)
theorem n36_24 : g36 call k [1,1,1,0,1,0] a H K = gLoop (g36 call k [1,1,1,0,1,0,0]) K k a H := at_loop (by kernel_rfl)
theorem n36_25 : g36 call k [1,1,1,0,1,0,0] a H K = g36 call k [1,1,1,0,1,0,0,0] a H (hSeq (g36 call k [1,1,1,0,1,0,0,1]) K) := at_seq (by kernel_rfl)
theorem n36_26 : g36 call k [1,1,1,0,1,0,0,0] a H K = o36 0 call [1,1,1,0,1,0,0,0] 0 a H (K .normal) := at_region (by kernel_rfl)
theorem n36_27 : g36 call k [1,1,1,0,1,0,0,1] a H K = g36 call k [1,1,1,0,1,0,0,1,0] a H (hSeq (g36 call k [1,1,1,0,1,0,0,1,1]) K) := at_seq (by kernel_rfl)
theorem n36_28 : g36 call k [1,1,1,0,1,0,0,1,0] a H K = onBool (asB (GA.eval a (.tmp 28))) (g36 call k [1,1,1,0,1,0,0,1,0,0] a H K) (g36 call k [1,1,1,0,1,0,0,1,0,1] a H K) := at_cond (by kernel_rfl)
theorem n36_29 : g36 call k [1,1,1,0,1,0,0,1,0,0] a H K = K .normal a H := at_skip (by kernel_rfl)
theorem n36_30 : g36 call k [1,1,1,0,1,0,0,1,1] a H K = g36 call k [1,1,1,0,1,0,0,1,1,0] a H (hBlock 1 K) := at_block (by kernel_rfl)
theorem n36_31 : g36 call k [1,1,1,0,1,0,0,1,1,0] a H K = g36 call k [1,1,1,0,1,0,0,1,1,0,0] a H (hSeq (g36 call k [1,1,1,0,1,0,0,1,1,0,1]) K) := at_seq (by kernel_rfl)
theorem n36_32 : g36 call k [1,1,1,0,1,0,0,1,1,0,0] a H K = o36 0 call [1,1,1,0,1,0,0,1,1,0,0] 0 a H (K .normal) := at_region (by kernel_rfl)
theorem n36_33 : g36 call k [1,1,1,0,1,0,0,1,1,0,1] a H K = g36 call k [1,1,1,0,1,0,0,1,1,0,1,0] a H (hSeq (g36 call k [1,1,1,0,1,0,0,1,1,0,1,1]) K) := at_seq (by kernel_rfl)
theorem n36_34 : g36 call k [1,1,1,0,1,0,0,1,1,0,1,0] a H K = o36 0 call [1,1,1,0,1,0,0,1,1,0,1,0] 0 a H (K .normal) := at_region (by kernel_rfl)
theorem n36_35 : g36 call k [1,1,1,0,1,0,0,1,1,0,1,1] a H K = onBool (asB (GA.eval a (.tmp 32))) (g36 call k [1,1,1,0,1,0,0,1,1,0,1,1,0] a H K) (g36 call k [1,1,1,0,1,0,0,1,1,0,1,1,1] a H K) := at_cond (by kernel_rfl)
theorem n36_36 : g36 call k [1,1,1,0,1,0,0,1,1,0,1,1,0] a H K = g36 call k [1,1,1,0,1,0,0,1,1,0,1,1,0,0] a H (hSeq (g36 call k [1,1,1,0,1,0,0,1,1,0,1,1,0,1]) K) := at_seq (by kernel_rfl)
theorem n36_37 : g36 call k [1,1,1,0,1,0,0,1,1,0,1,1,0,0] a H K = o36 0 call [1,1,1,0,1,0,0,1,1,0,1,1,0,0] 0 a H (K .normal) := at_region (by kernel_rfl)
theorem n36_38 : g36 call k [1,1,1,0,1,0,0,1,1,0,1,1,0,1] a H K = K .ret a H := at_ret (by kernel_rfl)
theorem n36_39 : g36 call k [1,1,1,0,1,0,0,1,1,0,1,1,1] a H K = K .normal a H := at_skip (by kernel_rfl)
theorem n36_40 : g36 call k [1,1,1,0,1,0,0,1,0,1] a H K = K (.exit 0) a H := at_exit (by kernel_rfl)
theorem n36_41 : g36 call k [1,1,1,1] a H K = g36 call k [1,1,1,1,0] a H (hSeq (g36 call k [1,1,1,1,1]) K) := at_seq (by kernel_rfl)
theorem n36_42 : g36 call k [1,1,1,1,0] a H K = o36 0 call [1,1,1,1,0] 0 a H (K .normal) := at_region (by kernel_rfl)
theorem n36_43 : g36 call k [1,1,1,1,1] a H K = g36 call k [1,1,1,1,1,0] a H (hSeq (g36 call k [1,1,1,1,1,1]) K) := at_seq (by kernel_rfl)
theorem n36_44 : g36 call k [1,1,1,1,1,0] a H K = g36 call k [1,1,1,1,1,0,0] a H (hSeq (g36 call k [1,1,1,1,1,0,1]) K) := at_seq (by kernel_rfl)
theorem n36_45 : g36 call k [1,1,1,1,1,0,0] a H K = o36 0 call [1,1,1,1,1,0,0] 0 a H (K .normal) := at_region (by kernel_rfl)
theorem n36_46 : g36 call k [1,1,1,1,1,0,1] a H K = g36 call k [1,1,1,1,1,0,1,0] a H (hBlock 2 K) := at_block (by kernel_rfl)
theorem n36_47 : g36 call k [1,1,1,1,1,0,1,0] a H K = gLoop (g36 call k [1,1,1,1,1,0,1,0,0]) K k a H := at_loop (by kernel_rfl)
theorem n36_48 : g36 call k [1,1,1,1,1,0,1,0,0] a H K = g36 call k [1,1,1,1,1,0,1,0,0,0] a H (hSeq (g36 call k [1,1,1,1,1,0,1,0,0,1]) K) := at_seq (by kernel_rfl)
theorem n36_49 : g36 call k [1,1,1,1,1,0,1,0,0,0] a H K = o36 0 call [1,1,1,1,1,0,1,0,0,0] 0 a H (K .normal) := at_region (by kernel_rfl)
theorem n36_50 : g36 call k [1,1,1,1,1,0,1,0,0,1] a H K = g36 call k [1,1,1,1,1,0,1,0,0,1,0] a H (hSeq (g36 call k [1,1,1,1,1,0,1,0,0,1,1]) K) := at_seq (by kernel_rfl)
theorem n36_51 : g36 call k [1,1,1,1,1,0,1,0,0,1,0] a H K = onBool (asB (GA.eval a (.tmp 39))) (g36 call k [1,1,1,1,1,0,1,0,0,1,0,0] a H K) (g36 call k [1,1,1,1,1,0,1,0,0,1,0,1] a H K) := at_cond (by kernel_rfl)
theorem n36_52 : g36 call k [1,1,1,1,1,0,1,0,0,1,0,0] a H K = K .normal a H := at_skip (by kernel_rfl)
theorem n36_53 : g36 call k [1,1,1,1,1,0,1,0,0,1,1] a H K = g36 call k [1,1,1,1,1,0,1,0,0,1,1,0] a H (hSeq (g36 call k [1,1,1,1,1,0,1,0,0,1,1,1]) K) := at_seq (by kernel_rfl)
theorem n36_54 : g36 call k [1,1,1,1,1,0,1,0,0,1,1,0] a H K = g36 call k [1,1,1,1,1,0,1,0,0,1,1,0,0] a H (hBlock 3 K) := at_block (by kernel_rfl)
theorem n36_55 : g36 call k [1,1,1,1,1,0,1,0,0,1,1,0,0] a H K = g36 call k [1,1,1,1,1,0,1,0,0,1,1,0,0,0] a H (hSeq (g36 call k [1,1,1,1,1,0,1,0,0,1,1,0,0,1]) K) := at_seq (by kernel_rfl)
theorem n36_56 : g36 call k [1,1,1,1,1,0,1,0,0,1,1,0,0,0] a H K = o36 0 call [1,1,1,1,1,0,1,0,0,1,1,0,0,0] 0 a H (K .normal) := at_region (by kernel_rfl)
theorem n36_57 : g36 call k [1,1,1,1,1,0,1,0,0,1,1,0,0,1] a H K = g36 call k [1,1,1,1,1,0,1,0,0,1,1,0,0,1,0] a H (hSeq (g36 call k [1,1,1,1,1,0,1,0,0,1,1,0,0,1,1]) K) := at_seq (by kernel_rfl)
theorem n36_58 : g36 call k [1,1,1,1,1,0,1,0,0,1,0,1] a H K = K (.exit 2) a H := at_exit (by kernel_rfl)
theorem n36_59 : g36 call k [1,1,1,1,1,0,1,0,0,1,1,0,0,1,0] a H K = o36 0 call [1,1,1,1,1,0,1,0,0,1,1,0,0,1,0] 0 a H (K .normal) := at_region (by kernel_rfl)
theorem n36_60 : g36 call k [1,1,1,1,1,0,1,0,0,1,1,0,0,1,1] a H K = g36 call k [1,1,1,1,1,0,1,0,0,1,1,0,0,1,1,0] a H (hSeq (g36 call k [1,1,1,1,1,0,1,0,0,1,1,0,0,1,1,1]) K) := at_seq (by kernel_rfl)
theorem n36_61 : g36 call k [1,1,1,1,1,0,1,0,0,1,1,0,0,1,1,0] a H K = g36 call k [1,1,1,1,1,0,1,0,0,1,1,0,0,1,1,0,0] a H (hSeq (g36 call k [1,1,1,1,1,0,1,0,0,1,1,0,0,1,1,0,1]) K) := at_seq (by kernel_rfl)
theorem n36_62 : g36 call k [1,1,1,1,1,0,1,0,0,1,1,0,0,1,1,0,0] a H K = o36 0 call [1,1,1,1,1,0,1,0,0,1,1,0,0,1,1,0,0] 0 a H (K .normal) := at_region (by kernel_rfl)
theorem n36_63 : g36 call k [1,1,1,1,1,0,1,0,0,1,1,0,0,1,1,0,1] a H K = onBool (asB (GA.eval a (.tmp 50))) (g36 call k [1,1,1,1,1,0,1,0,0,1,1,0,0,1,1,0,1,0] a H K) (g36 call k [1,1,1,1,1,0,1,0,0,1,1,0,0,1,1,0,1,1] a H K) := at_cond (by kernel_rfl)
theorem n36_64 : g36 call k [1,1,1,1,1,0,1,0,0,1,1,0,0,1,1,0,1,0] a H K = g36 call k [1,1,1,1,1,0,1,0,0,1,1,0,0,1,1,0,1,0,0] a H (hSeq (g36 call k [1,1,1,1,1,0,1,0,0,1,1,0,0,1,1,0,1,0,1]) K) := at_seq (by kernel_rfl)
theorem n36_65 : g36 call k [1,1,1,1,1,0,1,0,0,1,1,0,0,1,1,0,1,1] a H K = K .normal a H := at_skip (by kernel_rfl)
theorem n36_66 : g36 call k [1,1,1,1,1,1] a H K = g36 call k [1,1,1,1,1,1,0] a H (hSeq (g36 call k [1,1,1,1,1,1,1]) K) := at_seq (by kernel_rfl)
theorem n36_67 : g36 call k [1,1,1,1,1,1,0] a H K = g36 call k [1,1,1,1,1,1,0,0] a H (hSeq (g36 call k [1,1,1,1,1,1,0,1]) K) := at_seq (by kernel_rfl)
theorem n36_68 : g36 call k [1,1,1,1,1,1,0,0] a H K = o36 0 call [1,1,1,1,1,1,0,0] 0 a H (K .normal) := at_region (by kernel_rfl)
theorem n36_69 : g36 call k [1,1,1,1,1,1,0,1] a H K = onBool (asB (GA.eval a (.tmp 72))) (g36 call k [1,1,1,1,1,1,0,1,0] a H K) (g36 call k [1,1,1,1,1,1,0,1,1] a H K) := at_cond (by kernel_rfl)
theorem n36_70 : g36 call k [1,1,1,1,1,1,0,1,0] a H K = g36 call k [1,1,1,1,1,1,0,1,0,0] a H (hSeq (g36 call k [1,1,1,1,1,1,0,1,0,1]) K) := at_seq (by kernel_rfl)
theorem n36_71 : g36 call k [1,1,1,1,1,1,0,1,0,0] a H K = o36 0 call [1,1,1,1,1,1,0,1,0,0] 0 a H (K .normal) := at_region (by kernel_rfl)
theorem n36_72 : g36 call k [1,1,1,1,1,1,0,1,0,1] a H K = K .ret a H := at_ret (by kernel_rfl)
theorem n36_73 : g36 call k [1,1,1,1,1,1,0,1,1] a H K = K .normal a H := at_skip (by kernel_rfl)
theorem n36_74 : g36 call k [1,1,1,1,1,1,1] a H K = g36 call k [1,1,1,1,1,1,1,0] a H (hSeq (g36 call k [1,1,1,1,1,1,1,1]) K) := at_seq (by kernel_rfl)
theorem n36_75 : g36 call k [1,1,1,1,1,1,1,0] a H K = g36 call k [1,1,1,1,1,1,1,0,0] a H (hSeq (g36 call k [1,1,1,1,1,1,1,0,1]) K) := at_seq (by kernel_rfl)
theorem n36_76 : g36 call k [1,1,1,1,1,1,1,0,0] a H K = o36 0 call [1,1,1,1,1,1,1,0,0] 0 a H (K .normal) := at_region (by kernel_rfl)
theorem n36_77 : g36 call k [1,1,1,1,1,1,1,0,1] a H K = onBool (asB (GA.eval a (.tmp 77))) (g36 call k [1,1,1,1,1,1,1,0,1,0] a H K) (g36 call k [1,1,1,1,1,1,1,0,1,1] a H K) := at_cond (by kernel_rfl)
theorem n36_78 : g36 call k [1,1,1,1,1,1,1,0,1,0] a H K = g36 call k [1,1,1,1,1,1,1,0,1,0,0] a H (hSeq (g36 call k [1,1,1,1,1,1,1,0,1,0,1]) K) := at_seq (by kernel_rfl)
theorem n36_79 : g36 call k [1,1,1,1,1,1,1,0,1,0,0] a H K = o36 0 call [1,1,1,1,1,1,1,0,1,0,0] 0 a H (K .normal) := at_region (by kernel_rfl)
theorem n36_80 : g36 call k [1,1,1,1,1,1,1,0,1,0,1] a H K = K .ret a H := at_ret (by kernel_rfl)
theorem n36_81 : g36 call k [1,1,1,1,1,1,1,0,1,1] a H K = K .normal a H := at_skip (by kernel_rfl)
theorem n36_82 : g36 call k [1,1,1,1,1,1,1,1] a H K = g36 call k [1,1,1,1,1,1,1,1,0] a H (hSeq (g36 call k [1,1,1,1,1,1,1,1,1]) K) := at_seq (by kernel_rfl)
theorem n36_83 : g36 call k [1,1,1,1,1,1,1,1,0] a H K = o36 0 call [1,1,1,1,1,1,1,1,0] 0 a H (K .normal) := at_region (by kernel_rfl)
theorem n36_84 : g36 call k [1,1,1,1,1,1,1,1,1] a H K = K .ret a H := at_ret (by kernel_rfl)
theorem n36_85 : g36 call k [1,1,1,1,1,0,1,0,0,1,1,0,0,1,1,0,1,0,0] a H K = o36 0 call [1,1,1,1,1,0,1,0,0,1,1,0,0,1,1,0,1,0,0] 0 a H (K .normal) := at_region (by kernel_rfl)
theorem n36_86 : g36 call k [1,1,1,1,1,0,1,0,0,1,1,0,0,1,1,0,1,0,1] a H K = K (.exit 3) a H := at_exit (by kernel_rfl)
theorem n36_87 : g36 call k [1,1,1,1,1,0,1,0,0,1,1,1] a H K = o36 0 call [1,1,1,1,1,0,1,0,0,1,1,1] 0 a H (K .normal) := at_region (by kernel_rfl)
theorem n36_88 : g36 call k [1,1,1,1,1,0,1,0,0,1,1,0,0,1,1,1] a H K = o36 1 call [1,1,1,1,1,0,1,0,0,1,1,0,0,1,1,1] 0 a H (K .normal) := at_region (by kernel_rfl)
theorem s36_0 : o36 0 call [0] 0 (FG 81 (fun _ => undef) [(1, p1), (0, p0)]) H K' =
  K' (FG 81 (fun _ => undef) [(5, (.int .i64 0)), (4, (.pointer (some ⟨(GH.push H (.row (Value.cells p0).toList 88 false)).n, 0, none⟩))), (2, (.pointer (some ⟨H.n, 0, none⟩))), (1, p1), (0, p0)]) (GH.push (GH.push H (.row (Value.cells p0).toList 88 false)) (.row [(.slice none 0 0), (.slice none 0 0)] 88 false)) := by kernel_rfl
theorem s36_1 : o36 0 call [1,0,0] 0 (FG 81 (fun _ => undef) [(5, (.int .i64 0)), (4, (.pointer (some ⟨(GH.push H (.row (Value.cells p0).toList 88 false)).n, 0, none⟩))), (2, (.pointer (some ⟨H.n, 0, none⟩))), (1, p1), (0, p0)]) (GH.push (GH.push H (.row (Value.cells p0).toList 88 false)) (.row [(.slice none 0 0), (.slice none 0 0)] 88 false)) K' =
  onV (gLoad Try.prog 88 (.pointer (some ⟨H.n, 0, none⟩)) (GH.push (GH.push H (.row (Value.cells p0).toList 88 false)) (.row [(.slice none 0 0), (.slice none 0 0)] 88 false))) fun v1 =>
  onCall 0 call (.func (.func 34) #[] #[]) [v1] (GH.push (GH.push H (.row (Value.cells p0).toList 88 false)) (.row [(.slice none 0 0), (.slice none 0 0)] 88 false)) fun v2 H3 =>
  K' (FG 81 (fun _ => undef) [(6, v2), (15, v2), (14, v1), (5, (.int .i64 0)), (4, (.pointer (some ⟨(GH.push H (.row (Value.cells p0).toList 88 false)).n, 0, none⟩))), (2, (.pointer (some ⟨H.n, 0, none⟩))), (1, p1), (0, p0)]) H3 := by kernel_rfl
theorem s36_2 : o36 0 call [1,0,1,0] 0 (FG 81 (fun _ => undef) [(6, v2), (15, v2), (14, v1), (5, (.int .i64 0)), (4, (.pointer (some ⟨(GH.push H (.row (Value.cells p0).toList 88 false)).n, 0, none⟩))), (2, (.pointer (some ⟨H.n, 0, none⟩))), (1, p1), (0, p0)]) H3 K' =
  onV ((oBin Try.prog .neq 27 v2 (.int .i64 0)).filter closed) fun v4 =>
  K' (FG 81 (fun _ => undef) [(17, v4), (16, v2), (6, v2), (15, v2), (14, v1), (5, (.int .i64 0)), (4, (.pointer (some ⟨(GH.push H (.row (Value.cells p0).toList 88 false)).n, 0, none⟩))), (2, (.pointer (some ⟨H.n, 0, none⟩))), (1, p1), (0, p0)]) H3 := by kernel_rfl
theorem s36_3 : o36 0 call [1,0,1,1,0,0] 0 (FG 81 (fun _ => undef) [(17, v4), (16, v2), (6, v2), (15, v2), (14, v1), (5, (.int .i64 0)), (4, (.pointer (some ⟨(GH.push H (.row (Value.cells p0).toList 88 false)).n, 0, none⟩))), (2, (.pointer (some ⟨H.n, 0, none⟩))), (1, p1), (0, p0)]) H3 K' =
  onH (gStore Try.prog 88 (.pointer (some ⟨(GH.push H (.row (Value.cells p0).toList 88 false)).n, 0, none⟩)) (.agg #[(.slice none 0 0), (.slice none 0 0)]) H3) fun H5 =>
  K' (FG 81 (fun _ => undef) [(5, v2), (19, v2), (18, (.agg #[(.slice none 0 0), (.slice none 0 0)])), (17, v4), (16, v2), (6, v2), (15, v2), (14, v1), (5, (.int .i64 0)), (4, (.pointer (some ⟨(GH.push H (.row (Value.cells p0).toList 88 false)).n, 0, none⟩))), (2, (.pointer (some ⟨H.n, 0, none⟩))), (1, p1), (0, p0)]) H5 := by kernel_rfl
theorem s36_4 : o36 0 call [1,1,0,0] 0 (FG 81 (fun _ => undef) [(17, v4), (16, v2), (6, v2), (15, v2), (14, v1), (5, (.int .i64 0)), (4, (.pointer (some ⟨(GH.push H (.row (Value.cells p0).toList 88 false)).n, 0, none⟩))), (2, (.pointer (some ⟨H.n, 0, none⟩))), (1, p1), (0, p0)]) H3 K' =
  onCall 0 call (.func (.func 100) #[] #[]) [p1, (.func (.func 101) #[] #[])] H3 fun v6 H7 =>
  K' (FG 81 (fun _ => undef) [(21, v6), (20, p1), (17, v4), (16, v2), (6, v2), (15, v2), (14, v1), (5, (.int .i64 0)), (4, (.pointer (some ⟨(GH.push H (.row (Value.cells p0).toList 88 false)).n, 0, none⟩))), (2, (.pointer (some ⟨H.n, 0, none⟩))), (1, p1), (0, p0)]) H7 := by kernel_rfl
theorem s36_5 : o36 0 call [1,1,0,1,0,0] 0 (FG 81 (fun _ => undef) [(21, v6), (20, p1), (17, v4), (16, v2), (6, v2), (15, v2), (14, v1), (5, (.int .i64 0)), (4, (.pointer (some ⟨(GH.push H (.row (Value.cells p0).toList 88 false)).n, 0, none⟩))), (2, (.pointer (some ⟨H.n, 0, none⟩))), (1, p1), (0, p0)]) H7 K' =
  onH (gStore Try.prog 88 (.pointer (some ⟨(GH.push H (.row (Value.cells p0).toList 88 false)).n, 0, none⟩)) (.agg #[(.slice none 0 0), (.slice none 0 0)]) H7) fun H8 =>
  K' (FG 81 (fun _ => undef) [(5, (.int .i64 1)), (22, (.agg #[(.slice none 0 0), (.slice none 0 0)])), (21, v6), (20, p1), (17, v4), (16, v2), (6, v2), (15, v2), (14, v1), (5, (.int .i64 0)), (4, (.pointer (some ⟨(GH.push H (.row (Value.cells p0).toList 88 false)).n, 0, none⟩))), (2, (.pointer (some ⟨H.n, 0, none⟩))), (1, p1), (0, p0)]) H8 := by kernel_rfl
theorem s36_6 : o36 0 call [1,1,1,0,0] 0 (FG 81 (fun _ => undef) [(21, v6), (20, p1), (17, v4), (16, v2), (6, v2), (15, v2), (14, v1), (5, (.int .i64 0)), (4, (.pointer (some ⟨(GH.push H (.row (Value.cells p0).toList 88 false)).n, 0, none⟩))), (2, (.pointer (some ⟨H.n, 0, none⟩))), (1, p1), (0, p0)]) H7 K' =
  onV (gLoad Try.prog 88 (.pointer (some ⟨H.n, 0, none⟩)) H7) fun v9 =>
  onCall 0 call (.func (.func 102) #[] #[]) [v9, p1] H7 fun v10 H11 =>
  onVH (gRange Try.prog 186 v10 H11) fun v12 H13 =>
  K' (FG 81 (fun _ => undef) [(26, v12), (25, v10), (24, p1), (23, v9), (21, v6), (20, p1), (17, v4), (16, v2), (6, v2), (15, v2), (14, v1), (5, (.int .i64 0)), (4, (.pointer (some ⟨(GH.push H (.row (Value.cells p0).toList 88 false)).n, 0, none⟩))), (2, (.pointer (some ⟨H.n, 0, none⟩))), (1, p1), (0, p0)]) H13 := by kernel_rfl
theorem s36_7 : o36 0 call [1,1,1,0,1,0,0,0] 0 (FF 81 d) H K' =
  onNext 0 (gNext (d 26) false H) fun v1 H2 =>
  onV (oExtract v1 0) fun v3 =>
  K' (FG 81 d [(28, v3), (27, v1)]) H2 := by kernel_rfl
theorem s36_8 : o36 0 call [1,1,1,0,1,0,0,1,1,0,0] 0 (FG 81 d [(28, v3), (27, v1)]) H2 K' =
  onV (gEntry (d 26) H2) fun v4 =>
  onV (oExtract v4 1) fun v5 =>
  K' (FG 81 d [(8, v5), (30, v5), (29, v4), (28, v3), (27, v1)]) H2 := by kernel_rfl
theorem s36_9 : o36 0 call [1,1,1,0,1,0,0,1,1,0,1,0] 0 (FG 81 d [(8, v5), (30, v5), (29, v4), (28, v3), (27, v1)]) H2 K' =
  onV ((oBin Try.prog .gtr 3 v5 (.int .i64 0)).filter closed) fun v6 =>
  K' (FG 81 d [(32, v6), (31, v5), (8, v5), (30, v5), (29, v4), (28, v3), (27, v1)]) H2 := by kernel_rfl
theorem s36_10 : o36 0 call [1,1,1,0,1,0,0,1,1,0,1,1,0,0] 0 (FG 81 d [(32, v6), (31, v5), (8, v5), (30, v5), (29, v4), (28, v3), (27, v1)]) H2 K' =
  onH (gStore Try.prog 88 (d 4) (.agg #[(.slice none 0 0), (.slice none 0 0)]) H2) fun H7 =>
  K' (FG 81 d [(5, (.int .i64 18)), (33, (.agg #[(.slice none 0 0), (.slice none 0 0)])), (32, v6), (31, v5), (8, v5), (30, v5), (29, v4), (28, v3), (27, v1)]) H7 := by kernel_rfl
theorem s36_11 : o36 0 call [1,1,1,1,0] 0 (FF 81 d) H K' =
  onV (gLoad Try.prog 88 (d 2) H) fun v1 =>
  onCall 0 call (.func (.func 99) #[] #[]) [v1] H fun v2 H3 =>
  onH (gStore Try.prog 88 (.pointer (some ⟨H3.n, 0, none⟩)) v2 (GH.push H3 (.row [(.slice none 0 0), (.slice none 0 0)] 88 false))) fun H4 =>
  K' (FG 81 d [(9, (.pointer (some ⟨H3.n, 0, none⟩))), (35, v2), (34, v1)]) H4 := by kernel_rfl
theorem s36_12 : o36 0 call [1,1,1,1,1,0,0] 0 (FG 81 d [(9, (.pointer (some ⟨H3.n, 0, none⟩))), (35, v2), (34, v1)]) H4 K' =
  onV (oLen Try.prog 86 (d 1)) fun v5 =>
  K' (FG 81 d [(38, (.int .i64 0)), (37, v5), (36, (d 1)), (9, (.pointer (some ⟨H3.n, 0, none⟩))), (35, v2), (34, v1)]) H4 := by kernel_rfl
theorem s36_13 : o36 0 call [1,1,1,1,1,0,1,0,0,0] 0 (FF 81 d) H K' =
  onV ((oBin Try.prog .lss 3 (d 38) (d 37)).filter closed) fun v1 =>
  K' (FG 81 d [(39, v1)]) H := by kernel_rfl
theorem s36_14 : o36 0 call [1,1,1,1,1,0,1,0,0,1,1,0,0,0] 0 (FG 81 d [(39, v1)]) H K' =
  onV (oIndexAddr Try.prog 86 (d 36) (d 38)) fun v2 =>
  onV (gLoad Try.prog 91 v2 H) fun v3 =>
  onH (gStore Try.prog 91 (.pointer (some ⟨H.n, 0, none⟩)) v3 (GH.push H (.row [(.int .i64 0), (.int .i64 0), (.int .i64 0)] 91 false))) fun H4 =>
  K' (FG 81 d [(11, (.pointer (some ⟨H.n, 0, none⟩))), (41, v3), (40, v2), (39, v1)]) H4 := by kernel_rfl
theorem s36_15 : o36 0 call [1,1,1,1,1,0,1,0,0,1,1,0,0,1,0] 0 (FF 81 d) H K' =
  onV (oFieldAddr Try.prog 88 (d 9) 1) fun v1 =>
  onV (gLoad Try.prog 86 v1 H) fun v2 =>
  onV (gLoad Try.prog 91 (d 11) H) fun v3 =>
  onCall 0 call (.func (.func 103) #[] #[]) [v2, v3, (.func (.func 96) #[] #[])] H fun v4 H5 =>
  onV (oExtract v4 0) fun v6 =>
  onV (oExtract v4 1) fun v7 =>
  K' (FG 81 d [(13, v7), (12, v6), (48, v7), (47, v6), (42, v4), (46, v4), (45, v3), (44, v2), (43, v1)]) H5 := by kernel_rfl
theorem s36_16 : o36 0 call [1,1,1,1,1,0,1,0,0,1,1,0,0,1,1,0,0] 0 (FG 81 d [(13, v7), (12, v6), (48, v7), (47, v6), (42, v4), (46, v4), (45, v3), (44, v2), (43, v1)]) H5 K' =
  onV ((oUn Try.prog .not v7).filter closed) fun v8 =>
  K' (FG 81 d [(50, v8), (49, v7), (13, v7), (12, v6), (48, v7), (47, v6), (42, v4), (46, v4), (45, v3), (44, v2), (43, v1)]) H5 := by kernel_rfl
theorem s36_17 : o36 0 call [1,1,1,1,1,1,0,0] 0 (FF 81 d) H K' =
  onV (oFieldAddr Try.prog 88 (d 9) 1) fun v1 =>
  onV (gLoad Try.prog 86 v1 H) fun v2 =>
  onCall 0 call (.func (.func 100) #[] #[]) [v2, (.func (.func 105) #[] #[])] H fun v3 H4 =>
  K' (FG 81 d [(72, v3), (71, v2), (70, v1)]) H4 := by kernel_rfl
theorem s36_18 : o36 0 call [1,1,1,1,1,1,0,1,0,0] 0 (FG 81 d [(72, v3), (71, v2), (70, v1)]) H4 K' =
  onH (gStore Try.prog 88 (d 4) (.agg #[(.slice none 0 0), (.slice none 0 0)]) H4) fun H5 =>
  K' (FG 81 d [(5, (.int .i64 3)), (73, (.agg #[(.slice none 0 0), (.slice none 0 0)])), (72, v3), (71, v2), (70, v1)]) H5 := by kernel_rfl
theorem s36_19 : o36 0 call [1,1,1,1,1,1,1,0,0] 0 (FG 81 d [(72, v3), (71, v2), (70, v1)]) H4 K' =
  onV (oFieldAddr Try.prog 88 (d 9) 1) fun v6 =>
  onV (gLoad Try.prog 86 v6 H4) fun v7 =>
  onV (oLen Try.prog 86 v7) fun v8 =>
  onV ((oBin Try.prog .gtr 3 v8 (.int .i64 512)).filter closed) fun v9 =>
  K' (FG 81 d [(77, v9), (76, v8), (75, v7), (74, v6), (72, v3), (71, v2), (70, v1)]) H4 := by kernel_rfl
theorem s36_20 : o36 0 call [1,1,1,1,1,1,1,0,1,0,0] 0 (FG 81 d [(77, v9), (76, v8), (75, v7), (74, v6), (72, v3), (71, v2), (70, v1)]) H4 K' =
  onH (gStore Try.prog 88 (d 4) (.agg #[(.slice none 0 0), (.slice none 0 0)]) H4) fun H10 =>
  K' (FG 81 d [(5, (.int .i64 9)), (78, (.agg #[(.slice none 0 0), (.slice none 0 0)])), (77, v9), (76, v8), (75, v7), (74, v6), (72, v3), (71, v2), (70, v1)]) H10 := by kernel_rfl
theorem s36_21 : o36 0 call [1,1,1,1,1,1,1,1,0] 0 (FG 81 d [(77, v9), (76, v8), (75, v7), (74, v6), (72, v3), (71, v2), (70, v1)]) H4 K' =
  onV (gLoad Try.prog 88 (d 9) H4) fun v11 =>
  onCall 0 call (.func (.func 99) #[] #[]) [v11] H4 fun v12 H13 =>
  onH (gStore Try.prog 88 (d 4) v12 H13) fun H14 =>
  K' (FG 81 d [(5, (.int .i64 0)), (80, v12), (79, v11), (77, v9), (76, v8), (75, v7), (74, v6), (72, v3), (71, v2), (70, v1)]) H14 := by kernel_rfl
theorem s36_22 : o36 0 call [1,1,1,1,1,0,1,0,0,1,1,0,0,1,1,0,1,0,0] 0 (FF 81 d) H K' =
  onV (oFieldAddr Try.prog 88 (d 9) 1) fun v1 =>
  onV (gLoad Try.prog 86 v1 H) fun v2 =>
  onV (gLoad Try.prog 91 (d 11) H) fun v3 =>
  onVH (gBuildSlice Try.prog 86 1 [(0, v3)] H) fun v4 H5 =>
  onCall 0 call (.func (.func 104) #[] #[]) [v2, (d 12), v4] H5 fun v6 H7 =>
  onV (oFieldAddr Try.prog 88 (d 9) 1) fun v8 =>
  onH (gStore Try.prog 86 v8 v6 H7) fun H9 =>
  K' (FG 81 d [(57, v8), (56, v6), (55, v4), (54, v3), (53, (d 12)), (52, v2), (51, v1)]) H9 := by kernel_rfl
theorem s36_23 : o36 0 call [1,1,1,1,1,0,1,0,0,1,1,1] 0 (FG 81 d [(57, v8), (56, v6), (55, v4), (54, v3), (53, (d 12)), (52, v2), (51, v1)]) H9 K' =
  onV ((oBin Try.prog .add 3 (d 38) (.int .i64 1)).filter closed) fun v10 =>
  K' (FG 81 d [(38, v10), (69, v10), (57, v8), (56, v6), (55, v4), (54, v3), (53, (d 12)), (52, v2), (51, v1)]) H9 := by kernel_rfl
theorem s36_24 : o36 1 call [1,1,1,1,1,0,1,0,0,1,1,0,0,1,1,1] 0 (FF 81 d) H K' =
  onV (oFieldAddr Try.prog 88 (d 9) 1) fun v1 =>
  onV (gLoad Try.prog 86 v1 H) fun v2 =>
  onV (oIndexAddr Try.prog 86 v2 (d 12)) fun v3 =>
  onV (oFieldAddr Try.prog 91 v3 2) fun v4 =>
  onV (gLoad Try.prog 3 v4 H) fun v5 =>
  onV (oFieldAddr Try.prog 91 (d 11) 2) fun v6 =>
  onV (gLoad Try.prog 3 v6 H) fun v7 =>
  onV ((oBin Try.prog .add 3 v5 v7).filter closed) fun v8 =>
  onV (oIndexAddr Try.prog 86 v2 (d 12)) fun v9 =>
  onV (oFieldAddr Try.prog 91 v9 2) fun v10 =>
  onH (gStore Try.prog 3 v10 v8 H) fun H11 =>
  K' (FG 81 d [(68, v10), (67, v9), (66, v8), (65, v7), (64, v6), (63, v5), (62, v4), (61, v3), (60, (d 12)), (59, v2), (58, v1)]) H11 := by kernel_rfl
theorem s36_25 : o36 0 call [1,1,1,1,1,0,1,0,0,1,1,1] 0 (FF 81 d) H K' =
  onV ((oBin Try.prog .add 3 (d 38) (.int .i64 1)).filter closed) fun v1 =>
  K' (FG 81 d [(38, v1), (69, v1)]) H := by kernel_rfl
def f36_l13_P (ag : AG) (sg : Sg5) : Prop := ∀ (d : Nat → Value) (H : GH), ag (FF 81 d) H = sg (d 4) (d 9) (d 36) (d 37) (d 38) H
theorem f36_l13_at {ag : AG} {sg : Sg5} (h : f36_l13_P ag sg) : ag (FF 81 d) H = sg (d 4) (d 9) (d 36) (d 37) (d 38) H := h d H
def f36_l7_P (ag : AG) (sg : Sg4) : Prop := ∀ (d : Nat → Value) (H : GH), ag (FF 81 d) H = sg (d 1) (d 2) (d 4) (d 26) H
theorem f36_l7_at {ag : AG} {sg : Sg4} (h : f36_l7_P ag sg) : ag (FF 81 d) H = sg (d 1) (d 2) (d 4) (d 26) H := h d H
noncomputable def f36_r17 (call : Handle) (k : Nat) (sg_l13 : Sg5) (x4 x9 x11 x12 x36 x37 x38 : Value) (H : GH) : M (Value × GH) :=
  onV (oFieldAddr Try.prog 88 x9 1) fun v1 =>
  onV (gLoad Try.prog 86 v1 H) fun v2 =>
  onV (gLoad Try.prog 91 x11 H) fun v3 =>
  onVH (gBuildSlice Try.prog 86 1 [(0, v3)] H) fun v4 H5 =>
  onCall 0 call (.func (.func 104) #[] #[]) [v2, x12, v4] H5 fun v6 H7 =>
  onV (oFieldAddr Try.prog 88 x9 1) fun v8 =>
  onH (gStore Try.prog 86 v8 v6 H7) fun H9 =>
  onV ((oBin Try.prog .add 3 x38 (.int .i64 1)).filter closed) fun v10 =>
  (sg_l13 x4 x9 x36 x37 v10 H9)
theorem f36_r17_eq (call : Handle) (k : Nat) (ag_l13 : AG) (sg_l13 : Sg5) (h_l13 : f36_l13_P ag_l13 sg_l13) : g36 call k [1,1,1,1,1,0,1,0,0,1,1,0,0,1,1,0,1,0,0] (FF 81 d) H (hSeq (g36 call k [1,1,1,1,1,0,1,0,0,1,1,0,0,1,1,0,1,0,1]) (hSeq (g36 call k [1,1,1,1,1,0,1,0,0,1,1,0,0,1,1,1]) (hBlock 3 (hSeq (g36 call k [1,1,1,1,1,0,1,0,0,1,1,1]) (hLoop ag_l13 (hBlock 2 (hSeq (g36 call k [1,1,1,1,1,1]) (hFin Try.prog Try.f36)))))))) = f36_r17 call k sg_l13 (d 4) (d 9) (d 11) (d 12) (d 36) (d 37) (d 38) H := by
  unfold f36_r17
  rw [n36_85]
  rw [s36_22]
  refine onV_c fun v1 => ?_
  refine onV_c fun v2 => ?_
  refine onV_c fun v3 => ?_
  refine onVH_c fun v4 H5 => ?_
  refine onCall_c fun v6 H7 => ?_
  refine onV_c fun v8 => ?_
  refine onH_c fun H9 => ?_
  rw [hSeq_n]
  rw [n36_86]
  rw [hSeq_e, hBlock_hit]
  rw [hSeq_n]
  rw [n36_87]
  rw [s36_23]
  refine onV_c fun v10 => ?_
  rw [hLoop_n]
  generalize e : (FG 81 d [(38, v10), (69, v10), (57, v8), (56, v6), (55, v4), (54, v3), (53, (d 12)), (52, v2), (51, v1)]) = a
  rw [show a = (FF 81 (gf a)) from (FF_gf (by subst e; exact FG_len)).symm]
  exact (f36_l13_at (d := gf a) h_l13).trans (by subst e; kernel_rfl)
noncomputable def f36_r19 (call : Handle) (k : Nat) (sg_l13 : Sg5) (x4 x9 x36 x37 x38 : Value) (H : GH) : M (Value × GH) :=
  onV ((oBin Try.prog .add 3 x38 (.int .i64 1)).filter closed) fun v1 =>
  (sg_l13 x4 x9 x36 x37 v1 H)
theorem f36_r19_eq (call : Handle) (k : Nat) (ag_l13 : AG) (sg_l13 : Sg5) (h_l13 : f36_l13_P ag_l13 sg_l13) : g36 call k [1,1,1,1,1,0,1,0,0,1,1,1] (FF 81 d) H (hLoop ag_l13 (hBlock 2 (hSeq (g36 call k [1,1,1,1,1,1]) (hFin Try.prog Try.f36)))) = f36_r19 call k sg_l13 (d 4) (d 9) (d 36) (d 37) (d 38) H := by
  unfold f36_r19
  rw [n36_87]
  rw [s36_25]
  refine onV_c fun v1 => ?_
  rw [hLoop_n]
  generalize e : (FG 81 d [(38, v1), (69, v1)]) = a
  rw [show a = (FF 81 (gf a)) from (FF_gf (by subst e; exact FG_len)).symm]
  exact (f36_l13_at (d := gf a) h_l13).trans (by subst e; kernel_rfl)
noncomputable def f36_r18 (call : Handle) (k : Nat) (sg_l13 : Sg5) (x4 x9 x11 x12 x36 x37 x38 : Value) (H : GH) : M (Value × GH) :=
  onV (oFieldAddr Try.prog 88 x9 1) fun v1 =>
  onV (gLoad Try.prog 86 v1 H) fun v2 =>
  onV (oIndexAddr Try.prog 86 v2 x12) fun v3 =>
  onV (oFieldAddr Try.prog 91 v3 2) fun v4 =>
  onV (gLoad Try.prog 3 v4 H) fun v5 =>
  onV (oFieldAddr Try.prog 91 x11 2) fun v6 =>
  onV (gLoad Try.prog 3 v6 H) fun v7 =>
  onV ((oBin Try.prog .add 3 v5 v7).filter closed) fun v8 =>
  onV (oIndexAddr Try.prog 86 v2 x12) fun v9 =>
  onV (oFieldAddr Try.prog 91 v9 2) fun v10 =>
  onH (gStore Try.prog 3 v10 v8 H) fun H11 =>
  (f36_r19 call k (sg_l13) x4 x9 x36 x37 x38 H11)
theorem f36_r18_eq (call : Handle) (k : Nat) (ag_l13 : AG) (sg_l13 : Sg5) (h_l13 : f36_l13_P ag_l13 sg_l13) : g36 call k [1,1,1,1,1,0,1,0,0,1,1,0,0,1,1,1] (FF 81 d) H (hBlock 3 (hSeq (g36 call k [1,1,1,1,1,0,1,0,0,1,1,1]) (hLoop ag_l13 (hBlock 2 (hSeq (g36 call k [1,1,1,1,1,1]) (hFin Try.prog Try.f36)))))) = f36_r18 call k sg_l13 (d 4) (d 9) (d 11) (d 12) (d 36) (d 37) (d 38) H := by
  unfold f36_r18
  rw [n36_88]
  rw [s36_24]
  refine onV_c fun v1 => ?_
  refine onV_c fun v2 => ?_
  refine onV_c fun v3 => ?_
  refine onV_c fun v4 => ?_
  refine onV_c fun v5 => ?_
  refine onV_c fun v6 => ?_
  refine onV_c fun v7 => ?_
  refine onV_c fun v8 => ?_
  refine onV_c fun v9 => ?_
  refine onV_c fun v10 => ?_
  refine onH_c fun H11 => ?_
  rw [hBlock_n]
  rw [hSeq_n]
  generalize e : (FG 81 d [(68, v10), (67, v9), (66, v8), (65, v7), (64, v6), (63, v5), (62, v4), (61, v3), (60, (d 12)), (59, v2), (58, v1)]) = a
  rw [show a = (FF 81 (gf a)) from (FF_gf (by subst e; exact FG_len)).symm]
  exact (f36_r19_eq (d := gf a) call k ag_l13 sg_l13 h_l13).trans (by subst e; kernel_rfl)
noncomputable def f36_r15 (call : Handle) (k : Nat) (sg_l13 : Sg5) (x4 x9 x11 x36 x37 x38 : Value) (H : GH) : M (Value × GH) :=
  onV (oFieldAddr Try.prog 88 x9 1) fun v1 =>
  onV (gLoad Try.prog 86 v1 H) fun v2 =>
  onV (gLoad Try.prog 91 x11 H) fun v3 =>
  onCall 0 call (.func (.func 103) #[] #[]) [v2, v3, (.func (.func 96) #[] #[])] H fun v4 H5 =>
  onV (oExtract v4 0) fun v6 =>
  onV (oExtract v4 1) fun v7 =>
  onV ((oUn Try.prog .not v7).filter closed) fun v8 =>
  onBool (asB v8)
  ((f36_r17 call k (sg_l13) x4 x9 x11 v6 x36 x37 x38 H5))
  ((f36_r18 call k (sg_l13) x4 x9 x11 v6 x36 x37 x38 H5))
theorem f36_r15_eq (call : Handle) (k : Nat) (ag_l13 : AG) (sg_l13 : Sg5) (h_l13 : f36_l13_P ag_l13 sg_l13) : g36 call k [1,1,1,1,1,0,1,0,0,1,1,0,0,1,0] (FF 81 d) H (hSeq (g36 call k [1,1,1,1,1,0,1,0,0,1,1,0,0,1,1]) (hBlock 3 (hSeq (g36 call k [1,1,1,1,1,0,1,0,0,1,1,1]) (hLoop ag_l13 (hBlock 2 (hSeq (g36 call k [1,1,1,1,1,1]) (hFin Try.prog Try.f36))))))) = f36_r15 call k sg_l13 (d 4) (d 9) (d 11) (d 36) (d 37) (d 38) H := by
  unfold f36_r15
  rw [n36_59]
  rw [s36_15]
  refine onV_c fun v1 => ?_
  refine onV_c fun v2 => ?_
  refine onV_c fun v3 => ?_
  refine onCall_c fun v4 H5 => ?_
  refine onV_c fun v6 => ?_
  refine onV_c fun v7 => ?_
  rw [hSeq_n]
  rw [n36_60]
  rw [n36_61]
  rw [n36_62]
  rw [s36_16]
  refine onV_c fun v8 => ?_
  rw [hSeq_n]
  rw [n36_63]
  refine onBool_cc (by kernel_rfl) ?_ ?_
  · rw [n36_64]
    generalize e : (FG 81 d [(50, v8), (49, v7), (13, v7), (12, v6), (48, v7), (47, v6), (42, v4), (46, v4), (45, v3), (44, v2), (43, v1)]) = a
    rw [show a = (FF 81 (gf a)) from (FF_gf (by subst e; exact FG_len)).symm]
    exact (f36_r17_eq (d := gf a) call k ag_l13 sg_l13 h_l13).trans (by subst e; kernel_rfl)
  · rw [n36_65]
    rw [hSeq_n]
    generalize e : (FG 81 d [(50, v8), (49, v7), (13, v7), (12, v6), (48, v7), (47, v6), (42, v4), (46, v4), (45, v3), (44, v2), (43, v1)]) = a
    rw [show a = (FF 81 (gf a)) from (FF_gf (by subst e; exact FG_len)).symm]
    exact (f36_r18_eq (d := gf a) call k ag_l13 sg_l13 h_l13).trans (by subst e; kernel_rfl)
noncomputable def f36_r20 (call : Handle) (k : Nat) (x4 x9 : Value) (H : GH) : M (Value × GH) :=
  onV (oFieldAddr Try.prog 88 x9 1) fun v1 =>
  onV (gLoad Try.prog 86 v1 H) fun v2 =>
  onCall 0 call (.func (.func 100) #[] #[]) [v2, (.func (.func 105) #[] #[])] H fun v3 H4 =>
  onBool (asB v3)
  (onH (gStore Try.prog 88 x4 (.agg #[(.slice none 0 0), (.slice none 0 0)]) H4) fun H5 =>
  onV (gResL Try.prog H5 [(x4, some 88), ((.int .i64 3), none)]) fun v => some [(v, H5)])
  (onV (oFieldAddr Try.prog 88 x9 1) fun v6 =>
  onV (gLoad Try.prog 86 v6 H4) fun v7 =>
  onV (oLen Try.prog 86 v7) fun v8 =>
  onV ((oBin Try.prog .gtr 3 v8 (.int .i64 512)).filter closed) fun v9 =>
  onBool (asB v9)
  (onH (gStore Try.prog 88 x4 (.agg #[(.slice none 0 0), (.slice none 0 0)]) H4) fun H10 =>
  onV (gResL Try.prog H10 [(x4, some 88), ((.int .i64 9), none)]) fun v => some [(v, H10)])
  (onV (gLoad Try.prog 88 x9 H4) fun v11 =>
  onCall 0 call (.func (.func 99) #[] #[]) [v11] H4 fun v12 H13 =>
  onH (gStore Try.prog 88 x4 v12 H13) fun H14 =>
  onV (gResL Try.prog H14 [(x4, some 88), ((.int .i64 0), none)]) fun v => some [(v, H14)]))
theorem f36_r20_eq (call : Handle) (k : Nat) : g36 call k [1,1,1,1,1,1] (FF 81 d) H (hFin Try.prog Try.f36) = f36_r20 call k (d 4) (d 9) H := by
  unfold f36_r20
  rw [n36_66]
  rw [n36_67]
  rw [n36_68]
  rw [s36_17]
  refine onV_c fun v1 => ?_
  refine onV_c fun v2 => ?_
  refine onCall_c fun v3 H4 => ?_
  rw [hSeq_n]
  rw [n36_69]
  refine onBool_cc (by kernel_rfl) ?_ ?_
  · rw [n36_70]
    rw [n36_71]
    rw [s36_18]
    refine onH_c fun H5 => ?_
    rw [hSeq_n]
    rw [n36_72]
    rw [hSeq_r]
    kernel_rfl
  · rw [n36_73]
    rw [hSeq_n]
    rw [n36_74]
    rw [n36_75]
    rw [n36_76]
    rw [s36_19]
    refine onV_c fun v6 => ?_
    refine onV_c fun v7 => ?_
    refine onV_c fun v8 => ?_
    refine onV_c fun v9 => ?_
    rw [hSeq_n]
    rw [n36_77]
    refine onBool_cc (by kernel_rfl) ?_ ?_
    · rw [n36_78]
      rw [n36_79]
      rw [s36_20]
      refine onH_c fun H10 => ?_
      rw [hSeq_n]
      rw [n36_80]
      rw [hSeq_r]
      kernel_rfl
    · rw [n36_81]
      rw [hSeq_n]
      rw [n36_82]
      rw [n36_83]
      rw [s36_21]
      refine onV_c fun v11 => ?_
      refine onCall_c fun v12 H13 => ?_
      refine onH_c fun H14 => ?_
      rw [hSeq_n]
      rw [n36_84]
      kernel_rfl
noncomputable def f36_l13b (call : Handle) (k : Nat) (sg_l13 : Sg5) (x4 x9 x36 x37 x38 : Value) (H : GH) : M (Value × GH) :=
  onV ((oBin Try.prog .lss 3 x38 x37).filter closed) fun v1 =>
  onBool (asB v1)
  (onV (oIndexAddr Try.prog 86 x36 x38) fun v2 =>
  onV (gLoad Try.prog 91 v2 H) fun v3 =>
  onH (gStore Try.prog 91 (.pointer (some ⟨H.n, 0, none⟩)) v3 (GH.push H (.row [(.int .i64 0), (.int .i64 0), (.int .i64 0)] 91 false))) fun H4 =>
  (f36_r15 call k (sg_l13) x4 x9 (.pointer (some ⟨H.n, 0, none⟩)) x36 x37 x38 H4))
  ((f36_r20 call k x4 x9 H))
theorem f36_l13b_eq (call : Handle) (k : Nat) (ag_l13 : AG) (sg_l13 : Sg5) (h_l13 : f36_l13_P ag_l13 sg_l13) : g36 call k [1,1,1,1,1,0,1,0,0] (FF 81 d) H (hLoop ag_l13 (hBlock 2 (hSeq (g36 call k [1,1,1,1,1,1]) (hFin Try.prog Try.f36)))) = f36_l13b call k sg_l13 (d 4) (d 9) (d 36) (d 37) (d 38) H := by
  unfold f36_l13b
  rw [n36_48]
  rw [n36_49]
  rw [s36_13]
  refine onV_c fun v1 => ?_
  rw [hSeq_n]
  rw [n36_50]
  rw [n36_51]
  refine onBool_cc (by kernel_rfl) ?_ ?_
  · rw [n36_52]
    rw [hSeq_n]
    rw [n36_53]
    rw [n36_54]
    rw [n36_55]
    rw [n36_56]
    rw [s36_14]
    refine onV_c fun v2 => ?_
    refine onV_c fun v3 => ?_
    refine onH_c fun H4 => ?_
    rw [hSeq_n]
    rw [n36_57]
    generalize e : (FG 81 d [(11, (.pointer (some ⟨H.n, 0, none⟩))), (41, v3), (40, v2), (39, v1)]) = a
    rw [show a = (FF 81 (gf a)) from (FF_gf (by subst e; exact FG_len)).symm]
    exact (f36_r15_eq (d := gf a) call k ag_l13 sg_l13 h_l13).trans (by subst e; kernel_rfl)
  · rw [n36_58]
    rw [hSeq_e, hLoop_e, hBlock_hit]
    rw [hSeq_n]
    generalize e : (FG 81 d [(39, v1)]) = a
    rw [show a = (FF 81 (gf a)) from (FF_gf (by subst e; exact FG_len)).symm]
    exact (f36_r20_eq (d := gf a) call k).trans (by subst e; kernel_rfl)
noncomputable def f36_l13 (call : Handle) (k : Nat) : Nat → Value → Value → Value → Value → Value → GH → M (Value × GH)
  | 0, _, _, _, _, _, _ => none
  | r + 1, x4, x9, x36, x37, x38, H => f36_l13b call k (f36_l13 call k r) x4 x9 x36 x37 x38 H
theorem f36_l13_eq (call : Handle) (k : Nat) : ∀ (r : Nat), f36_l13_P (gLoop (g36 call k [1,1,1,1,1,0,1,0,0]) (hBlock 2 (hSeq (g36 call k [1,1,1,1,1,1]) (hFin Try.prog Try.f36))) r) (f36_l13 call k r) := by
  intro r
  induction r with
  | zero => unfold f36_l13_P; intros; rfl
  | succ r ih => unfold f36_l13_P; intros; exact f36_l13b_eq call k _ _ ih
noncomputable def f36_r11 (call : Handle) (k : Nat) (x1 x2 x4 : Value) (H : GH) : M (Value × GH) :=
  onV (gLoad Try.prog 88 x2 H) fun v1 =>
  onCall 0 call (.func (.func 99) #[] #[]) [v1] H fun v2 H3 =>
  onH (gStore Try.prog 88 (.pointer (some ⟨H3.n, 0, none⟩)) v2 (GH.push H3 (.row [(.slice none 0 0), (.slice none 0 0)] 88 false))) fun H4 =>
  onV (oLen Try.prog 86 x1) fun v5 =>
  (f36_l13 call k k x4 (.pointer (some ⟨H3.n, 0, none⟩)) x1 v5 (.int .i64 0) H4)
theorem f36_r11_eq (call : Handle) (k : Nat) : g36 call k [1,1,1,1] (FF 81 d) H (hFin Try.prog Try.f36) = f36_r11 call k (d 1) (d 2) (d 4) H := by
  unfold f36_r11
  rw [n36_41]
  rw [n36_42]
  rw [s36_11]
  refine onV_c fun v1 => ?_
  refine onCall_c fun v2 H3 => ?_
  refine onH_c fun H4 => ?_
  rw [hSeq_n]
  rw [n36_43]
  rw [n36_44]
  rw [n36_45]
  rw [s36_12]
  refine onV_c fun v5 => ?_
  rw [hSeq_n]
  rw [n36_46]
  rw [n36_47]
  generalize e : (FG 81 d [(38, (.int .i64 0)), (37, v5), (36, (d 1)), (9, (.pointer (some ⟨H3.n, 0, none⟩))), (35, v2), (34, v1)]) = a
  rw [show a = (FF 81 (gf a)) from (FF_gf (by subst e; exact FG_len)).symm]
  exact (f36_l13_at (d := gf a) (f36_l13_eq call k k)).trans (by subst e; kernel_rfl)
noncomputable def f36_l7b (call : Handle) (k : Nat) (sg_l7 : Sg4) (x1 x2 x4 x26 : Value) (H : GH) : M (Value × GH) :=
  onNext 0 (gNext x26 false H) fun v1 H2 =>
  onV (oExtract v1 0) fun v3 =>
  onBool (asB v3)
  (onV (gEntry x26 H2) fun v4 =>
  onV (oExtract v4 1) fun v5 =>
  onV ((oBin Try.prog .gtr 3 v5 (.int .i64 0)).filter closed) fun v6 =>
  onBool (asB v6)
  (onH (gStore Try.prog 88 x4 (.agg #[(.slice none 0 0), (.slice none 0 0)]) H2) fun H7 =>
  onV (gResL Try.prog H7 [(x4, some 88), ((.int .i64 18), none)]) fun v => some [(v, H7)])
  ((sg_l7 x1 x2 x4 x26 H2)))
  ((f36_r11 call k x1 x2 x4 H2))
theorem f36_l7b_eq (call : Handle) (k : Nat) (ag_l7 : AG) (sg_l7 : Sg4) (h_l7 : f36_l7_P ag_l7 sg_l7) : g36 call k [1,1,1,0,1,0,0] (FF 81 d) H (hLoop ag_l7 (hBlock 0 (hSeq (g36 call k [1,1,1,1]) (hFin Try.prog Try.f36)))) = f36_l7b call k sg_l7 (d 1) (d 2) (d 4) (d 26) H := by
  unfold f36_l7b
  rw [n36_25]
  rw [n36_26]
  rw [s36_7]
  refine onNext_c fun v1 H2 => ?_
  refine onV_c fun v3 => ?_
  rw [hSeq_n]
  rw [n36_27]
  rw [n36_28]
  refine onBool_cc (by kernel_rfl) ?_ ?_
  · rw [n36_29]
    rw [hSeq_n]
    rw [n36_30]
    rw [n36_31]
    rw [n36_32]
    rw [s36_8]
    refine onV_c fun v4 => ?_
    refine onV_c fun v5 => ?_
    rw [hSeq_n]
    rw [n36_33]
    rw [n36_34]
    rw [s36_9]
    refine onV_c fun v6 => ?_
    rw [hSeq_n]
    rw [n36_35]
    refine onBool_cc (by kernel_rfl) ?_ ?_
    · rw [n36_36]
      rw [n36_37]
      rw [s36_10]
      refine onH_c fun H7 => ?_
      rw [hSeq_n]
      rw [n36_38]
      rw [hBlock_r, hLoop_r, hBlock_r, hSeq_r]
      kernel_rfl
    · rw [n36_39]
      rw [hBlock_n]
      rw [hLoop_n]
      generalize e : (FG 81 d [(32, v6), (31, v5), (8, v5), (30, v5), (29, v4), (28, v3), (27, v1)]) = a
      rw [show a = (FF 81 (gf a)) from (FF_gf (by subst e; exact FG_len)).symm]
      exact (f36_l7_at (d := gf a) h_l7).trans (by subst e; kernel_rfl)
  · rw [n36_40]
    rw [hSeq_e, hLoop_e, hBlock_hit]
    rw [hSeq_n]
    generalize e : (FG 81 d [(28, v3), (27, v1)]) = a
    rw [show a = (FF 81 (gf a)) from (FF_gf (by subst e; exact FG_len)).symm]
    exact (f36_r11_eq (d := gf a) call k).trans (by subst e; kernel_rfl)
noncomputable def f36_l7 (call : Handle) (k : Nat) : Nat → Value → Value → Value → Value → GH → M (Value × GH)
  | 0, _, _, _, _, _ => none
  | r + 1, x1, x2, x4, x26, H => f36_l7b call k (f36_l7 call k r) x1 x2 x4 x26 H
theorem f36_l7_eq (call : Handle) (k : Nat) : ∀ (r : Nat), f36_l7_P (gLoop (g36 call k [1,1,1,0,1,0,0]) (hBlock 0 (hSeq (g36 call k [1,1,1,1]) (hFin Try.prog Try.f36))) r) (f36_l7 call k r) := by
  intro r
  induction r with
  | zero => unfold f36_l7_P; intros; rfl
  | succ r ih => unfold f36_l7_P; intros; exact f36_l7b_eq call k _ _ ih
noncomputable def f36_sh (call : Handle) (k : Nat) (p0 p1 : Value) (H : GH) : M (Value × GH) :=
  onV (gLoad Try.prog 88 (.pointer (some ⟨H.n, 0, none⟩)) (GH.push (GH.push H (.row (Value.cells p0).toList 88 false)) (.row [(.slice none 0 0), (.slice none 0 0)] 88 false))) fun v1 =>
  onCall 0 call (.func (.func 34) #[] #[]) [v1] (GH.push (GH.push H (.row (Value.cells p0).toList 88 false)) (.row [(.slice none 0 0), (.slice none 0 0)] 88 false)) fun v2 H3 =>
  onV ((oBin Try.prog .neq 27 v2 (.int .i64 0)).filter closed) fun v4 =>
  onBool (asB v4)
  (onH (gStore Try.prog 88 (.pointer (some ⟨(GH.push H (.row (Value.cells p0).toList 88 false)).n, 0, none⟩)) (.agg #[(.slice none 0 0), (.slice none 0 0)]) H3) fun H5 =>
  onV (gResL Try.prog H5 [((.pointer (some ⟨(GH.push H (.row (Value.cells p0).toList 88 false)).n, 0, none⟩)), some 88), (v2, none)]) fun v => some [(v, H5)])
  (onCall 0 call (.func (.func 100) #[] #[]) [p1, (.func (.func 101) #[] #[])] H3 fun v6 H7 =>
  onBool (asB v6)
  (onH (gStore Try.prog 88 (.pointer (some ⟨(GH.push H (.row (Value.cells p0).toList 88 false)).n, 0, none⟩)) (.agg #[(.slice none 0 0), (.slice none 0 0)]) H7) fun H8 =>
  onV (gResL Try.prog H8 [((.pointer (some ⟨(GH.push H (.row (Value.cells p0).toList 88 false)).n, 0, none⟩)), some 88), ((.int .i64 1), none)]) fun v => some [(v, H8)])
  (onV (gLoad Try.prog 88 (.pointer (some ⟨H.n, 0, none⟩)) H7) fun v9 =>
  onCall 0 call (.func (.func 102) #[] #[]) [v9, p1] H7 fun v10 H11 =>
  onVH (gRange Try.prog 186 v10 H11) fun v12 H13 =>
  (f36_l7 call k k p1 (.pointer (some ⟨H.n, 0, none⟩)) (.pointer (some ⟨(GH.push H (.row (Value.cells p0).toList 88 false)).n, 0, none⟩)) v12 H13)))
theorem f36_run (call : Handle) (k : Nat) (p0 p1 : Value) (H : GH) : g36 call k [] (FG 81 (fun _ => undef) [(1, p1), (0, p0)]) H (hFin Try.prog Try.f36) = f36_sh call k p0 p1 H := by
  unfold f36_sh
  rw [n36_0]
  rw [n36_1]
  rw [s36_0]
  rw [hSeq_n]
  rw [n36_2]
  rw [n36_3]
  rw [n36_4]
  rw [s36_1]
  refine onV_c fun v1 => ?_
  refine onCall_c fun v2 H3 => ?_
  rw [hSeq_n]
  rw [n36_5]
  rw [n36_6]
  rw [s36_2]
  refine onV_c fun v4 => ?_
  rw [hSeq_n]
  rw [n36_7]
  refine onBool_cc (by kernel_rfl) ?_ ?_
  · rw [n36_8]
    rw [n36_9]
    rw [s36_3]
    refine onH_c fun H5 => ?_
    rw [hSeq_n]
    rw [n36_10]
    rw [hSeq_r]
    kernel_rfl
  · rw [n36_11]
    rw [hSeq_n]
    rw [n36_12]
    rw [n36_13]
    rw [n36_14]
    rw [s36_4]
    refine onCall_c fun v6 H7 => ?_
    rw [hSeq_n]
    rw [n36_15]
    refine onBool_cc (by kernel_rfl) ?_ ?_
    · rw [n36_16]
      rw [n36_17]
      rw [s36_5]
      refine onH_c fun H8 => ?_
      rw [hSeq_n]
      rw [n36_18]
      rw [hSeq_r]
      kernel_rfl
    · rw [n36_19]
      rw [hSeq_n]
      rw [n36_20]
      rw [n36_21]
      rw [n36_22]
      rw [s36_6]
      refine onV_c fun v9 => ?_
      refine onCall_c fun v10 H11 => ?_
      refine onVH_c fun v12 H13 => ?_
      rw [hSeq_n]
      rw [n36_23]
      rw [n36_24]
      generalize e : (FG 81 (fun _ => undef) [(26, v12), (25, v10), (24, p1), (23, v9), (21, v6), (20, p1), (17, v4), (16, v2), (6, v2), (15, v2), (14, v1), (5, (.int .i64 0)), (4, (.pointer (some ⟨(GH.push H (.row (Value.cells p0).toList 88 false)).n, 0, none⟩))), (2, (.pointer (some ⟨H.n, 0, none⟩))), (1, p1), (0, p0)]) = a
      rw [show a = (FF 81 (gf a)) from (FF_gf (by subst e; exact FG_len)).symm]
      exact (f36_l7_at (d := gf a) (f36_l7_eq call k k)).trans (by subst e; kernel_rfl)
theorem f36_eq (call : Handle) (k : Nat) (p0 p1 : Value) (H : GH) : gFunc Try.prog call k Try.f36 [p0, p1] H = f36_sh call k p0 p1 H :=
  Eq.trans (by kernel_rfl) (f36_run call k p0 p1 H)
end
noncomputable def g37 {β : Type} (call : Handle) (k : Nat) (p : List Nat) : GA → GH → Kont β → M β := gCode Try.prog call k (fAt Try.f37 p)
noncomputable def o37 {β : Type} (d : Nat) (call : Handle) (p : List Nat) (i : Nat) : GA → GH → (GA → GH → M β) → M β := gOps Try.prog d call (opsAt (fAt Try.f37 p)) ((opsAt (fAt Try.f37 p)).drop i)
noncomputable def t37 {β : Type} (d : Nat) (call : Handle) (p : List Nat) (i n : Nat) : GA → GH → (GA → GH → M β) → M β := gOps Try.prog d call (opsAt (fAt Try.f37 p)) (((opsAt (fAt Try.f37 p)).drop i).take n)
theorem o37_s {β : Type} {d : Nat} {call : Handle} {p : List Nat} {a : GA} {H : GH} {K : GA → GH → M β} (i n : Nat) : o37 d call p i a H K = t37 d call p i n a H fun a H => o37 d call p (i + n) a H K := gOps_split i n
section
variable {β : Type} {call : Handle} {k : Nat} {a : GA} {K : Kont β} {K' : GA → GH → M β}
variable {d : Nat → Value} {xg : Value}
variable {p0 p1 : Value}
variable {v1 v2 v3 v4 v5 v6 v7 : Value}
variable {H H3 : GH}
theorem n37_0 : g37 call k [] a H K = g37 call k [0] a H (hSeq (g37 call k [1]) K) := at_seq (by kernel_rfl)
theorem n37_1 : g37 call k [0] a H K = o37 0 call [0] 0 a H (K .normal) := at_region (by kernel_rfl)
theorem n37_2 : g37 call k [1] a H K = g37 call k [1,0] a H (hSeq (g37 call k [1,1]) K) := at_seq (by kernel_rfl)
theorem n37_3 : g37 call k [1,0] a H K = g37 call k [1,0,0] a H (hSeq (g37 call k [1,0,1]) K) := at_seq (by kernel_rfl)
theorem n37_4 : g37 call k [1,0,0] a H K = o37 0 call [1,0,0] 0 a H (K .normal) := at_region (by kernel_rfl)
theorem n37_5 : g37 call k [1,0,1] a H K = g37 call k [1,0,1,0] a H (hSeq (g37 call k [1,0,1,1]) K) := at_seq (by kernel_rfl)
theorem n37_6 : g37 call k [1,0,1,0] a H K = o37 0 call [1,0,1,0] 0 a H (K .normal) := at_region (by kernel_rfl)
theorem n37_7 : g37 call k [1,0,1,1] a H K = onBool (asB (GA.eval a (.tmp 11))) (g37 call k [1,0,1,1,0] a H K) (g37 call k [1,0,1,1,1] a H K) := at_cond (by kernel_rfl)
theorem n37_8 : g37 call k [1,0,1,1,0] a H K = g37 call k [1,0,1,1,0,0] a H (hSeq (g37 call k [1,0,1,1,0,1]) K) := at_seq (by kernel_rfl)
theorem n37_9 : g37 call k [1,0,1,1,0,0] a H K = o37 0 call [1,0,1,1,0,0] 0 a H (K .normal) := at_region (by kernel_rfl)
theorem n37_10 : g37 call k [1,0,1,1,0,1] a H K = K .ret a H := at_ret (by kernel_rfl)
theorem n37_11 : g37 call k [1,0,1,1,1] a H K = K .normal a H := at_skip (by kernel_rfl)
theorem n37_12 : g37 call k [1,1] a H K = g37 call k [1,1,0] a H (hSeq (g37 call k [1,1,1]) K) := at_seq (by kernel_rfl)
theorem n37_13 : g37 call k [1,1,0] a H K = o37 0 call [1,1,0] 0 a H (K .normal) := at_region (by kernel_rfl)
theorem n37_14 : g37 call k [1,1,1] a H K = g37 call k [1,1,1,0] a H (hSeq (g37 call k [1,1,1,1]) K) := at_seq (by kernel_rfl)
theorem n37_15 : g37 call k [1,1,1,0] a H K = o37 0 call [1,1,1,0] 0 a H (K .normal) := at_region (by kernel_rfl)
theorem n37_16 : g37 call k [1,1,1,1] a H K = g37 call k [1,1,1,1,0] a H (hSeq (g37 call k [1,1,1,1,1]) K) := at_seq (by kernel_rfl)
theorem n37_17 : g37 call k [1,1,1,1,0] a H K = g37 call k [1,1,1,1,0,0] a H (hSeq (g37 call k [1,1,1,1,0,1]) K) := at_seq (by kernel_rfl)
theorem n37_18 : g37 call k [1,1,1,1,0,0] a H K = o37 0 call [1,1,1,1,0,0] 0 a H (K .normal) := at_region (by kernel_rfl)
theorem n37_19 : g37 call k [1,1,1,1,0,1] a H K = onBool (asB (GA.eval a (.tmp 27))) (g37 call k [1,1,1,1,0,1,0] a H K) (g37 call k [1,1,1,1,0,1,1] a H K) := at_cond (by kernel_rfl)
theorem n37_20 : g37 call k [1,1,1,1,0,1,0] a H K = g37 call k [1,1,1,1,0,1,0,0] a H (hSeq (g37 call k [1,1,1,1,0,1,0,1]) K) := at_seq (by kernel_rfl)
theorem n37_21 : g37 call k [1,1,1,1,0,1,0,0] a H K = o37 0 call [1,1,1,1,0,1,0,0] 0 a H (K .normal) := at_region (by kernel_rfl)
theorem n37_22 : g37 call k [1,1,1,1,0,1,0,1] a H K = K .ret a H := at_ret (by kernel_rfl)
theorem n37_23 : g37 call k [1,1,1,1,0,1,1] a H K = K .normal a H := at_skip (by kernel_rfl)
theorem n37_24 : g37 call k [1,1,1,1,1] a H K = g37 call k [1,1,1,1,1,0] a H (hSeq (g37 call k [1,1,1,1,1,1]) K) := at_seq (by kernel_rfl)
theorem n37_25 : g37 call k [1,1,1,1,1,0] a H K = o37 0 call [1,1,1,1,1,0] 0 a H (K .normal) := at_region (by kernel_rfl)
theorem n37_26 : g37 call k [1,1,1,1,1,1] a H K = K .ret a H := at_ret (by kernel_rfl)
theorem s37_0 : o37 0 call [0] 0 (FG 31 (fun _ => undef) [(1, p1), (0, p0)]) H K' =
  K' (FG 31 (fun _ => undef) [(5, (.int .i64 0)), (4, (.pointer (some ⟨(GH.push (GH.push H (.row (Value.cells p0).toList 88 false)) (.row (Value.cells p1).toList 3 false)).n, 0, none⟩))), (3, (.pointer (some ⟨(GH.push H (.row (Value.cells p0).toList 88 false)).n, 0, none⟩))), (2, (.pointer (some ⟨H.n, 0, none⟩))), (1, p1), (0, p0)]) (GH.push (GH.push (GH.push H (.row (Value.cells p0).toList 88 false)) (.row (Value.cells p1).toList 3 false)) (.row [(.slice none 0 0), (.slice none 0 0)] 88 false)) := by kernel_rfl
theorem s37_1 : o37 0 call [1,0,0] 0 (FG 31 (fun _ => undef) [(5, (.int .i64 0)), (4, (.pointer (some ⟨(GH.push (GH.push H (.row (Value.cells p0).toList 88 false)) (.row (Value.cells p1).toList 3 false)).n, 0, none⟩))), (3, (.pointer (some ⟨(GH.push H (.row (Value.cells p0).toList 88 false)).n, 0, none⟩))), (2, (.pointer (some ⟨H.n, 0, none⟩))), (1, p1), (0, p0)]) (GH.push (GH.push (GH.push H (.row (Value.cells p0).toList 88 false)) (.row (Value.cells p1).toList 3 false)) (.row [(.slice none 0 0), (.slice none 0 0)] 88 false)) K' =
  onV (gLoad Try.prog 88 (.pointer (some ⟨H.n, 0, none⟩)) (GH.push (GH.push (GH.push H (.row (Value.cells p0).toList 88 false)) (.row (Value.cells p1).toList 3 false)) (.row [(.slice none 0 0), (.slice none 0 0)] 88 false))) fun v1 =>
  onCall 0 call (.func (.func 34) #[] #[]) [v1] (GH.push (GH.push (GH.push H (.row (Value.cells p0).toList 88 false)) (.row (Value.cells p1).toList 3 false)) (.row [(.slice none 0 0), (.slice none 0 0)] 88 false)) fun v2 H3 =>
  K' (FG 31 (fun _ => undef) [(6, v2), (9, v2), (8, v1), (5, (.int .i64 0)), (4, (.pointer (some ⟨(GH.push (GH.push H (.row (Value.cells p0).toList 88 false)) (.row (Value.cells p1).toList 3 false)).n, 0, none⟩))), (3, (.pointer (some ⟨(GH.push H (.row (Value.cells p0).toList 88 false)).n, 0, none⟩))), (2, (.pointer (some ⟨H.n, 0, none⟩))), (1, p1), (0, p0)]) H3 := by kernel_rfl
theorem s37_2 : o37 0 call [1,0,1,0] 0 (FG 31 (fun _ => undef) [(6, v2), (9, v2), (8, v1), (5, (.int .i64 0)), (4, (.pointer (some ⟨(GH.push (GH.push H (.row (Value.cells p0).toList 88 false)) (.row (Value.cells p1).toList 3 false)).n, 0, none⟩))), (3, (.pointer (some ⟨(GH.push H (.row (Value.cells p0).toList 88 false)).n, 0, none⟩))), (2, (.pointer (some ⟨H.n, 0, none⟩))), (1, p1), (0, p0)]) H3 K' =
  onV ((oBin Try.prog .neq 27 v2 (.int .i64 0)).filter closed) fun v4 =>
  K' (FG 31 (fun _ => undef) [(11, v4), (10, v2), (6, v2), (9, v2), (8, v1), (5, (.int .i64 0)), (4, (.pointer (some ⟨(GH.push (GH.push H (.row (Value.cells p0).toList 88 false)) (.row (Value.cells p1).toList 3 false)).n, 0, none⟩))), (3, (.pointer (some ⟨(GH.push H (.row (Value.cells p0).toList 88 false)).n, 0, none⟩))), (2, (.pointer (some ⟨H.n, 0, none⟩))), (1, p1), (0, p0)]) H3 := by kernel_rfl
theorem s37_3 : o37 0 call [1,0,1,1,0,0] 0 (FG 31 (fun _ => undef) [(11, v4), (10, v2), (6, v2), (9, v2), (8, v1), (5, (.int .i64 0)), (4, (.pointer (some ⟨(GH.push (GH.push H (.row (Value.cells p0).toList 88 false)) (.row (Value.cells p1).toList 3 false)).n, 0, none⟩))), (3, (.pointer (some ⟨(GH.push H (.row (Value.cells p0).toList 88 false)).n, 0, none⟩))), (2, (.pointer (some ⟨H.n, 0, none⟩))), (1, p1), (0, p0)]) H3 K' =
  onH (gStore Try.prog 88 (.pointer (some ⟨(GH.push (GH.push H (.row (Value.cells p0).toList 88 false)) (.row (Value.cells p1).toList 3 false)).n, 0, none⟩)) (.agg #[(.slice none 0 0), (.slice none 0 0)]) H3) fun H5 =>
  K' (FG 31 (fun _ => undef) [(5, v2), (13, v2), (12, (.agg #[(.slice none 0 0), (.slice none 0 0)])), (11, v4), (10, v2), (6, v2), (9, v2), (8, v1), (5, (.int .i64 0)), (4, (.pointer (some ⟨(GH.push (GH.push H (.row (Value.cells p0).toList 88 false)) (.row (Value.cells p1).toList 3 false)).n, 0, none⟩))), (3, (.pointer (some ⟨(GH.push H (.row (Value.cells p0).toList 88 false)).n, 0, none⟩))), (2, (.pointer (some ⟨H.n, 0, none⟩))), (1, p1), (0, p0)]) H5 := by kernel_rfl
theorem s37_4 : o37 0 call [1,1,0] 0 (FG 31 (fun _ => undef) [(11, v4), (10, v2), (6, v2), (9, v2), (8, v1), (5, (.int .i64 0)), (4, (.pointer (some ⟨(GH.push (GH.push H (.row (Value.cells p0).toList 88 false)) (.row (Value.cells p1).toList 3 false)).n, 0, none⟩))), (3, (.pointer (some ⟨(GH.push H (.row (Value.cells p0).toList 88 false)).n, 0, none⟩))), (2, (.pointer (some ⟨H.n, 0, none⟩))), (1, p1), (0, p0)]) H3 K' =
  onV (gLoad Try.prog 88 (.pointer (some ⟨H.n, 0, none⟩)) H3) fun v6 =>
  onCall 0 call (.func (.func 99) #[] #[]) [v6] H3 fun v7 H8 =>
  onH (gStore Try.prog 88 (.pointer (some ⟨H8.n, 0, none⟩)) v7 (GH.push H8 (.row [(.slice none 0 0), (.slice none 0 0)] 88 false))) fun H9 =>
  K' (FG 31 (fun _ => undef) [(7, (.pointer (some ⟨H8.n, 0, none⟩))), (15, v7), (14, v6), (11, v4), (10, v2), (6, v2), (9, v2), (8, v1), (5, (.int .i64 0)), (4, (.pointer (some ⟨(GH.push (GH.push H (.row (Value.cells p0).toList 88 false)) (.row (Value.cells p1).toList 3 false)).n, 0, none⟩))), (3, (.pointer (some ⟨(GH.push H (.row (Value.cells p0).toList 88 false)).n, 0, none⟩))), (2, (.pointer (some ⟨H.n, 0, none⟩))), (1, p1), (0, p0)]) H9 := by kernel_rfl
theorem s37_5 : o37 0 call [1,1,1,0] 0 (FF 31 d) H K' =
  onV (oFieldAddr Try.prog 88 (d 7) 1) fun v1 =>
  onV (gLoad Try.prog 86 v1 H) fun v2 =>
  onCall 0 call (.func (.func 106) #[] #[]) [v2, (.func (.func 107) #[] #[(d 3)])] H fun v3 H4 =>
  onV (oFieldAddr Try.prog 88 (d 7) 1) fun v5 =>
  onH (gStore Try.prog 86 v5 v3 H4) fun H6 =>
  K' (FG 31 d [(20, v5), (19, v3), (18, (.func (.func 107) #[] #[(d 3)])), (17, v2), (16, v1)]) H6 := by kernel_rfl
theorem s37_6 : o37 0 call [1,1,1,1,0,0] 0 (FF 31 d) H K' =
  onV (oFieldAddr Try.prog 88 (d 7) 1) fun v1 =>
  onV (gLoad Try.prog 86 v1 H) fun v2 =>
  onV (oLen Try.prog 86 v2) fun v3 =>
  onV (oFieldAddr Try.prog 88 (d 2) 1) fun v4 =>
  onV (gLoad Try.prog 86 v4 H) fun v5 =>
  onV (oLen Try.prog 86 v5) fun v6 =>
  onV ((oBin Try.prog .eql 3 v3 v6).filter closed) fun v7 =>
  K' (FG 31 d [(27, v7), (26, v6), (25, v5), (24, v4), (23, v3), (22, v2), (21, v1)]) H := by kernel_rfl
theorem s37_7 : o37 0 call [1,1,1,1,0,1,0,0] 0 (FG 31 d [(27, v7), (26, v6), (25, v5), (24, v4), (23, v3), (22, v2), (21, v1)]) H K' =
  onH (gStore Try.prog 88 (d 4) (.agg #[(.slice none 0 0), (.slice none 0 0)]) H) fun H8 =>
  K' (FG 31 d [(5, (.int .i64 7)), (28, (.agg #[(.slice none 0 0), (.slice none 0 0)])), (27, v7), (26, v6), (25, v5), (24, v4), (23, v3), (22, v2), (21, v1)]) H8 := by kernel_rfl
theorem s37_8 : o37 0 call [1,1,1,1,1,0] 0 (FG 31 d [(27, v7), (26, v6), (25, v5), (24, v4), (23, v3), (22, v2), (21, v1)]) H K' =
  onV (gLoad Try.prog 88 (d 7) H) fun v9 =>
  onCall 0 call (.func (.func 99) #[] #[]) [v9] H fun v10 H11 =>
  onH (gStore Try.prog 88 (d 4) v10 H11) fun H12 =>
  K' (FG 31 d [(5, (.int .i64 0)), (30, v10), (29, v9), (27, v7), (26, v6), (25, v5), (24, v4), (23, v3), (22, v2), (21, v1)]) H12 := by kernel_rfl
noncomputable def f37_r6 (call : Handle) (k : Nat) (x2 x4 x7 : Value) (H : GH) : M (Value × GH) :=
  onV (oFieldAddr Try.prog 88 x7 1) fun v1 =>
  onV (gLoad Try.prog 86 v1 H) fun v2 =>
  onV (oLen Try.prog 86 v2) fun v3 =>
  onV (oFieldAddr Try.prog 88 x2 1) fun v4 =>
  onV (gLoad Try.prog 86 v4 H) fun v5 =>
  onV (oLen Try.prog 86 v5) fun v6 =>
  onV ((oBin Try.prog .eql 3 v3 v6).filter closed) fun v7 =>
  onBool (asB v7)
  (onH (gStore Try.prog 88 x4 (.agg #[(.slice none 0 0), (.slice none 0 0)]) H) fun H8 =>
  onV (gResL Try.prog H8 [(x4, some 88), ((.int .i64 7), none)]) fun v => some [(v, H8)])
  (onV (gLoad Try.prog 88 x7 H) fun v9 =>
  onCall 0 call (.func (.func 99) #[] #[]) [v9] H fun v10 H11 =>
  onH (gStore Try.prog 88 x4 v10 H11) fun H12 =>
  onV (gResL Try.prog H12 [(x4, some 88), ((.int .i64 0), none)]) fun v => some [(v, H12)])
theorem f37_r6_eq (call : Handle) (k : Nat) : g37 call k [1,1,1,1,0,0] (FF 31 d) H (hSeq (g37 call k [1,1,1,1,0,1]) (hSeq (g37 call k [1,1,1,1,1]) (hFin Try.prog Try.f37))) = f37_r6 call k (d 2) (d 4) (d 7) H := by
  unfold f37_r6
  rw [n37_18]
  rw [s37_6]
  refine onV_c fun v1 => ?_
  refine onV_c fun v2 => ?_
  refine onV_c fun v3 => ?_
  refine onV_c fun v4 => ?_
  refine onV_c fun v5 => ?_
  refine onV_c fun v6 => ?_
  refine onV_c fun v7 => ?_
  rw [hSeq_n]
  rw [n37_19]
  refine onBool_cc (by kernel_rfl) ?_ ?_
  · rw [n37_20]
    rw [n37_21]
    rw [s37_7]
    refine onH_c fun H8 => ?_
    rw [hSeq_n]
    rw [n37_22]
    rw [hSeq_r]
    kernel_rfl
  · rw [n37_23]
    rw [hSeq_n]
    rw [n37_24]
    rw [n37_25]
    rw [s37_8]
    refine onV_c fun v9 => ?_
    refine onCall_c fun v10 H11 => ?_
    refine onH_c fun H12 => ?_
    rw [hSeq_n]
    rw [n37_26]
    kernel_rfl
noncomputable def f37_r5 (call : Handle) (k : Nat) (x2 x3 x4 x7 : Value) (H : GH) : M (Value × GH) :=
  onV (oFieldAddr Try.prog 88 x7 1) fun v1 =>
  onV (gLoad Try.prog 86 v1 H) fun v2 =>
  onCall 0 call (.func (.func 106) #[] #[]) [v2, (.func (.func 107) #[] #[x3])] H fun v3 H4 =>
  onV (oFieldAddr Try.prog 88 x7 1) fun v5 =>
  onH (gStore Try.prog 86 v5 v3 H4) fun H6 =>
  (f37_r6 call k x2 x4 x7 H6)
theorem f37_r5_eq (call : Handle) (k : Nat) : g37 call k [1,1,1,0] (FF 31 d) H (hSeq (g37 call k [1,1,1,1]) (hFin Try.prog Try.f37)) = f37_r5 call k (d 2) (d 3) (d 4) (d 7) H := by
  unfold f37_r5
  rw [n37_15]
  rw [s37_5]
  refine onV_c fun v1 => ?_
  refine onV_c fun v2 => ?_
  refine onCall_c fun v3 H4 => ?_
  refine onV_c fun v5 => ?_
  refine onH_c fun H6 => ?_
  rw [hSeq_n]
  rw [n37_16]
  rw [n37_17]
  generalize e : (FG 31 d [(20, v5), (19, v3), (18, (.func (.func 107) #[] #[(d 3)])), (17, v2), (16, v1)]) = a
  rw [show a = (FF 31 (gf a)) from (FF_gf (by subst e; exact FG_len)).symm]
  exact (f37_r6_eq (d := gf a) call k).trans (by subst e; kernel_rfl)
noncomputable def f37_sh (call : Handle) (k : Nat) (p0 p1 : Value) (H : GH) : M (Value × GH) :=
  onV (gLoad Try.prog 88 (.pointer (some ⟨H.n, 0, none⟩)) (GH.push (GH.push (GH.push H (.row (Value.cells p0).toList 88 false)) (.row (Value.cells p1).toList 3 false)) (.row [(.slice none 0 0), (.slice none 0 0)] 88 false))) fun v1 =>
  onCall 0 call (.func (.func 34) #[] #[]) [v1] (GH.push (GH.push (GH.push H (.row (Value.cells p0).toList 88 false)) (.row (Value.cells p1).toList 3 false)) (.row [(.slice none 0 0), (.slice none 0 0)] 88 false)) fun v2 H3 =>
  onV ((oBin Try.prog .neq 27 v2 (.int .i64 0)).filter closed) fun v4 =>
  onBool (asB v4)
  (onH (gStore Try.prog 88 (.pointer (some ⟨(GH.push (GH.push H (.row (Value.cells p0).toList 88 false)) (.row (Value.cells p1).toList 3 false)).n, 0, none⟩)) (.agg #[(.slice none 0 0), (.slice none 0 0)]) H3) fun H5 =>
  onV (gResL Try.prog H5 [((.pointer (some ⟨(GH.push (GH.push H (.row (Value.cells p0).toList 88 false)) (.row (Value.cells p1).toList 3 false)).n, 0, none⟩)), some 88), (v2, none)]) fun v => some [(v, H5)])
  (onV (gLoad Try.prog 88 (.pointer (some ⟨H.n, 0, none⟩)) H3) fun v6 =>
  onCall 0 call (.func (.func 99) #[] #[]) [v6] H3 fun v7 H8 =>
  onH (gStore Try.prog 88 (.pointer (some ⟨H8.n, 0, none⟩)) v7 (GH.push H8 (.row [(.slice none 0 0), (.slice none 0 0)] 88 false))) fun H9 =>
  (f37_r5 call k (.pointer (some ⟨H.n, 0, none⟩)) (.pointer (some ⟨(GH.push H (.row (Value.cells p0).toList 88 false)).n, 0, none⟩)) (.pointer (some ⟨(GH.push (GH.push H (.row (Value.cells p0).toList 88 false)) (.row (Value.cells p1).toList 3 false)).n, 0, none⟩)) (.pointer (some ⟨H8.n, 0, none⟩)) H9))
theorem f37_run (call : Handle) (k : Nat) (p0 p1 : Value) (H : GH) : g37 call k [] (FG 31 (fun _ => undef) [(1, p1), (0, p0)]) H (hFin Try.prog Try.f37) = f37_sh call k p0 p1 H := by
  unfold f37_sh
  rw [n37_0]
  rw [n37_1]
  rw [s37_0]
  rw [hSeq_n]
  rw [n37_2]
  rw [n37_3]
  rw [n37_4]
  rw [s37_1]
  refine onV_c fun v1 => ?_
  refine onCall_c fun v2 H3 => ?_
  rw [hSeq_n]
  rw [n37_5]
  rw [n37_6]
  rw [s37_2]
  refine onV_c fun v4 => ?_
  rw [hSeq_n]
  rw [n37_7]
  refine onBool_cc (by kernel_rfl) ?_ ?_
  · rw [n37_8]
    rw [n37_9]
    rw [s37_3]
    refine onH_c fun H5 => ?_
    rw [hSeq_n]
    rw [n37_10]
    rw [hSeq_r]
    kernel_rfl
  · rw [n37_11]
    rw [hSeq_n]
    rw [n37_12]
    rw [n37_13]
    rw [s37_4]
    refine onV_c fun v6 => ?_
    refine onCall_c fun v7 H8 => ?_
    refine onH_c fun H9 => ?_
    rw [hSeq_n]
    rw [n37_14]
    generalize e : (FG 31 (fun _ => undef) [(7, (.pointer (some ⟨H8.n, 0, none⟩))), (15, v7), (14, v6), (11, v4), (10, v2), (6, v2), (9, v2), (8, v1), (5, (.int .i64 0)), (4, (.pointer (some ⟨(GH.push (GH.push H (.row (Value.cells p0).toList 88 false)) (.row (Value.cells p1).toList 3 false)).n, 0, none⟩))), (3, (.pointer (some ⟨(GH.push H (.row (Value.cells p0).toList 88 false)).n, 0, none⟩))), (2, (.pointer (some ⟨H.n, 0, none⟩))), (1, p1), (0, p0)]) = a
    rw [show a = (FF 31 (gf a)) from (FF_gf (by subst e; exact FG_len)).symm]
    exact (f37_r5_eq (d := gf a) call k).trans (by subst e; kernel_rfl)
theorem f37_eq (call : Handle) (k : Nat) (p0 p1 : Value) (H : GH) : gFunc Try.prog call k Try.f37 [p0, p1] H = f37_sh call k p0 p1 H :=
  Eq.trans (by kernel_rfl) (f37_run call k p0 p1 H)
end
noncomputable def g38 {β : Type} (call : Handle) (k : Nat) (p : List Nat) : GA → GH → Kont β → M β := gCode Try.prog call k (fAt Try.f38 p)
noncomputable def o38 {β : Type} (d : Nat) (call : Handle) (p : List Nat) (i : Nat) : GA → GH → (GA → GH → M β) → M β := gOps Try.prog d call (opsAt (fAt Try.f38 p)) ((opsAt (fAt Try.f38 p)).drop i)
noncomputable def t38 {β : Type} (d : Nat) (call : Handle) (p : List Nat) (i n : Nat) : GA → GH → (GA → GH → M β) → M β := gOps Try.prog d call (opsAt (fAt Try.f38 p)) (((opsAt (fAt Try.f38 p)).drop i).take n)
theorem o38_s {β : Type} {d : Nat} {call : Handle} {p : List Nat} {a : GA} {H : GH} {K : GA → GH → M β} (i n : Nat) : o38 d call p i a H K = t38 d call p i n a H fun a H => o38 d call p (i + n) a H K := gOps_split i n
section
variable {β : Type} {call : Handle} {k : Nat} {a : GA} {K : Kont β} {K' : GA → GH → M β}
variable {d : Nat → Value} {xg : Value}
variable {p0 p1 p2 p3 : Value}
variable {v1 v2 v3 v4 v5 v6 v7 v8 : Value}
variable {H H2 H5 : GH}
theorem n38_0 : g38 call k [] a H K = g38 call k [0] a H (hSeq (g38 call k [1]) K) := at_seq (by kernel_rfl)
theorem n38_1 : g38 call k [0] a H K = o38 0 call [0] 0 a H (K .normal) := at_region (by kernel_rfl)
theorem n38_2 : g38 call k [1] a H K = g38 call k [1,0] a H (hSeq (g38 call k [1,1]) K) := at_seq (by kernel_rfl)
theorem n38_3 : g38 call k [1,0] a H K = o38 0 call [1,0] 0 a H (K .normal) := at_region (by kernel_rfl)
theorem n38_4 : g38 call k [1,1] a H K = g38 call k [1,1,0] a H (hSeq (g38 call k [1,1,1]) K) := at_seq (by kernel_rfl)
theorem n38_5 : g38 call k [1,1,0] a H K = g38 call k [1,1,0,0] a H (hSeq (g38 call k [1,1,0,1]) K) := at_seq (by kernel_rfl)
theorem n38_6 : g38 call k [1,1,0,0] a H K = o38 0 call [1,1,0,0] 0 a H (K .normal) := at_region (by kernel_rfl)
theorem n38_7 : g38 call k [1,1,0,1] a H K = g38 call k [1,1,0,1,0] a H (hSeq (g38 call k [1,1,0,1,1]) K) := at_seq (by kernel_rfl)
theorem n38_8 : g38 call k [1,1,0,1,0] a H K = o38 0 call [1,1,0,1,0] 0 a H (K .normal) := at_region (by kernel_rfl)
theorem n38_9 : g38 call k [1,1,0,1,1] a H K = onBool (asB (GA.eval a (.tmp 24))) (g38 call k [1,1,0,1,1,0] a H K) (g38 call k [1,1,0,1,1,1] a H K) := at_cond (by kernel_rfl)
theorem n38_10 : g38 call k [1,1,0,1,1,0] a H K = g38 call k [1,1,0,1,1,0,0] a H (hSeq (g38 call k [1,1,0,1,1,0,1]) K) := at_seq (by kernel_rfl)
theorem n38_11 : g38 call k [1,1,0,1,1,1] a H K = K .normal a H := at_skip (by kernel_rfl)
theorem n38_12 : g38 call k [1,1,1] a H K = g38 call k [1,1,1,0] a H (hSeq (g38 call k [1,1,1,1]) K) := at_seq (by kernel_rfl)
theorem n38_13 : g38 call k [1,1,1,0] a H K = g38 call k [1,1,1,0,0] a H (hSeq (g38 call k [1,1,1,0,1]) K) := at_seq (by kernel_rfl)
theorem n38_14 : g38 call k [1,1,1,0,0] a H K = o38 0 call [1,1,1,0,0] 0 a H (K .normal) := at_region (by kernel_rfl)
theorem n38_15 : g38 call k [1,1,1,0,1] a H K = onBool (asB (GA.eval a (.tmp 29))) (g38 call k [1,1,1,0,1,0] a H K) (g38 call k [1,1,1,0,1,1] a H K) := at_cond (by kernel_rfl)
theorem n38_16 : g38 call k [1,1,1,0,1,0] a H K = g38 call k [1,1,1,0,1,0,0] a H (hSeq (g38 call k [1,1,1,0,1,0,1]) K) := at_seq (by kernel_rfl)
theorem n38_17 : g38 call k [1,1,1,0,1,1] a H K = K .normal a H := at_skip (by kernel_rfl)
theorem n38_18 : g38 call k [1,1,1,1] a H K = g38 call k [1,1,1,1,0] a H (hSeq (g38 call k [1,1,1,1,1]) K) := at_seq (by kernel_rfl)
theorem n38_19 : g38 call k [1,1,0,1,1,0,0] a H K = o38 0 call [1,1,0,1,1,0,0] 0 a H (K .normal) := at_region (by kernel_rfl)
theorem n38_20 : g38 call k [1,1,0,1,1,0,1] a H K = K .ret a H := at_ret (by kernel_rfl)
theorem n38_21 : g38 call k [1,1,1,0,1,0,0] a H K = o38 0 call [1,1,1,0,1,0,0] 0 a H (K .normal) := at_region (by kernel_rfl)
theorem n38_22 : g38 call k [1,1,1,0,1,0,1] a H K = K .ret a H := at_ret (by kernel_rfl)
theorem n38_23 : g38 call k [1,1,1,1,0] a H K = o38 0 call [1,1,1,1,0] 0 a H (K .normal) := at_region (by kernel_rfl)
theorem n38_24 : g38 call k [1,1,1,1,1] a H K = g38 call k [1,1,1,1,1,0] a H (hSeq (g38 call k [1,1,1,1,1,1]) K) := at_seq (by kernel_rfl)
theorem n38_25 : g38 call k [1,1,1,1,1,0] a H K = g38 call k [1,1,1,1,1,0,0] a H (hBlock 0 K) := at_block (by kernel_rfl)
theorem n38_26 : g38 call k [1,1,1,1,1,0,0] a H K = g38 call k [1,1,1,1,1,0,0,0] a H (hSeq (g38 call k [1,1,1,1,1,0,0,1]) K) := at_seq (by kernel_rfl)
theorem n38_27 : g38 call k [1,1,1,1,1,0,0,0] a H K = o38 0 call [1,1,1,1,1,0,0,0] 0 a H (K .normal) := at_region (by kernel_rfl)
theorem n38_28 : g38 call k [1,1,1,1,1,0,0,1] a H K = onBool (asB (GA.eval a (.tmp 38))) (g38 call k [1,1,1,1,1,0,0,1,0] a H K) (g38 call k [1,1,1,1,1,0,0,1,1] a H K) := at_cond (by kernel_rfl)
theorem n38_29 : g38 call k [1,1,1,1,1,0,0,1,0] a H K = g38 call k [1,1,1,1,1,0,0,1,0,0] a H (hSeq (g38 call k [1,1,1,1,1,0,0,1,0,1]) K) := at_seq (by kernel_rfl)
theorem n38_30 : g38 call k [1,1,1,1,1,0,0,1,0,0] a H K = o38 0 call [1,1,1,1,1,0,0,1,0,0] 0 a H (K .normal) := at_region (by kernel_rfl)
theorem n38_31 : g38 call k [1,1,1,1,1,0,0,1,0,1] a H K = K .ret a H := at_ret (by kernel_rfl)
theorem n38_32 : g38 call k [1,1,1,1,1,0,0,1,1] a H K = g38 call k [1,1,1,1,1,0,0,1,1,0] a H (hSeq (g38 call k [1,1,1,1,1,0,0,1,1,1]) K) := at_seq (by kernel_rfl)
theorem n38_33 : g38 call k [1,1,1,1,1,0,0,1,1,0] a H K = o38 0 call [1,1,1,1,1,0,0,1,1,0] 0 a H (K .normal) := at_region (by kernel_rfl)
theorem n38_34 : g38 call k [1,1,1,1,1,0,0,1,1,1] a H K = onBool (asB (GA.eval a (.tmp 42))) (g38 call k [1,1,1,1,1,0,0,1,1,1,0] a H K) (g38 call k [1,1,1,1,1,0,0,1,1,1,1] a H K) := at_cond (by kernel_rfl)
theorem n38_35 : g38 call k [1,1,1,1,1,0,0,1,1,1,0] a H K = g38 call k [1,1,1,1,1,0,0,1,1,1,0,0] a H (hSeq (g38 call k [1,1,1,1,1,0,0,1,1,1,0,1]) K) := at_seq (by kernel_rfl)
theorem n38_36 : g38 call k [1,1,1,1,1,0,0,1,1,1,0,0] a H K = o38 0 call [1,1,1,1,1,0,0,1,1,1,0,0] 0 a H (K .normal) := at_region (by kernel_rfl)
theorem n38_37 : g38 call k [1,1,1,1,1,0,0,1,1,1,0,1] a H K = K .ret a H := at_ret (by kernel_rfl)
theorem n38_38 : g38 call k [1,1,1,1,1,0,0,1,1,1,1] a H K = K .normal a H := at_skip (by kernel_rfl)
theorem n38_39 : g38 call k [1,1,1,1,1,1] a H K = g38 call k [1,1,1,1,1,1,0] a H (hSeq (g38 call k [1,1,1,1,1,1,1]) K) := at_seq (by kernel_rfl)
theorem n38_40 : g38 call k [1,1,1,1,1,1,0] a H K = o38 0 call [1,1,1,1,1,1,0] 0 a H (K .normal) := at_region (by kernel_rfl)
theorem n38_41 : g38 call k [1,1,1,1,1,1,1] a H K = g38 call k [1,1,1,1,1,1,1,0] a H (hSeq (g38 call k [1,1,1,1,1,1,1,1]) K) := at_seq (by kernel_rfl)
theorem n38_42 : g38 call k [1,1,1,1,1,1,1,0] a H K = o38 0 call [1,1,1,1,1,1,1,0] 0 a H (K .normal) := at_region (by kernel_rfl)
theorem n38_43 : g38 call k [1,1,1,1,1,1,1,1] a H K = g38 call k [1,1,1,1,1,1,1,1,0] a H (hSeq (g38 call k [1,1,1,1,1,1,1,1,1]) K) := at_seq (by kernel_rfl)
theorem n38_44 : g38 call k [1,1,1,1,1,1,1,1,0] a H K = g38 call k [1,1,1,1,1,1,1,1,0,0] a H (hSeq (g38 call k [1,1,1,1,1,1,1,1,0,1]) K) := at_seq (by kernel_rfl)
theorem n38_45 : g38 call k [1,1,1,1,1,1,1,1,0,0] a H K = o38 0 call [1,1,1,1,1,1,1,1,0,0] 0 a H (K .normal) := at_region (by kernel_rfl)
theorem n38_46 : g38 call k [1,1,1,1,1,1,1,1,0,1] a H K = g38 call k [1,1,1,1,1,1,1,1,0,1,0] a H (hSeq (g38 call k [1,1,1,1,1,1,1,1,0,1,1]) K) := at_seq (by kernel_rfl)
theorem n38_47 : g38 call k [1,1,1,1,1,1,1,1,0,1,0] a H K = o38 0 call [1,1,1,1,1,1,1,1,0,1,0] 0 a H (K .normal) := at_region (by kernel_rfl)
theorem n38_48 : g38 call k [1,1,1,1,1,1,1,1,0,1,1] a H K = onBool (asB (GA.eval a (.tmp 73))) (g38 call k [1,1,1,1,1,1,1,1,0,1,1,0] a H K) (g38 call k [1,1,1,1,1,1,1,1,0,1,1,1] a H K) := at_cond (by kernel_rfl)
theorem n38_49 : g38 call k [1,1,1,1,1,1,1,1,0,1,1,1] a H K = K .normal a H := at_skip (by kernel_rfl)
theorem n38_50 : g38 call k [1,1,1,1,1,1,1,1,0,1,1,0] a H K = o38 0 call [1,1,1,1,1,1,1,1,0,1,1,0] 0 a H (K .normal) := at_region (by kernel_rfl)
theorem n38_51 : g38 call k [1,1,1,1,1,1,1,1,1] a H K = g38 call k [1,1,1,1,1,1,1,1,1,0] a H (hSeq (g38 call k [1,1,1,1,1,1,1,1,1,1]) K) := at_seq (by kernel_rfl)
theorem n38_52 : g38 call k [1,1,1,1,1,1,1,1,1,0] a H K = o38 0 call [1,1,1,1,1,1,1,1,1,0] 0 a H (K .normal) := at_region (by kernel_rfl)
theorem n38_53 : g38 call k [1,1,1,1,1,1,1,1,1,1] a H K = K .ret a H := at_ret (by kernel_rfl)
theorem s38_0 : o38 0 call [0] 0 (FG 85 (fun _ => undef) [(3, p3), (2, p2), (1, p1), (0, p0)]) H K' =
  K' (FG 85 (fun _ => undef) [(10, (.int .i64 0)), (9, (.int .i64 0)), (8, (.pointer (some ⟨(GH.push H (.row (Value.cells p0).toList 88 false)).n, 0, none⟩))), (4, (.pointer (some ⟨H.n, 0, none⟩))), (3, p3), (2, p2), (1, p1), (0, p0)]) (GH.push (GH.push H (.row (Value.cells p0).toList 88 false)) (.row [(.slice none 0 0), (.slice none 0 0)] 88 false)) := by kernel_rfl
theorem s38_1 : o38 0 call [1,0] 0 (FG 85 (fun _ => undef) [(10, (.int .i64 0)), (9, (.int .i64 0)), (8, (.pointer (some ⟨(GH.push H (.row (Value.cells p0).toList 88 false)).n, 0, none⟩))), (4, (.pointer (some ⟨H.n, 0, none⟩))), (3, p3), (2, p2), (1, p1), (0, p0)]) (GH.push (GH.push H (.row (Value.cells p0).toList 88 false)) (.row [(.slice none 0 0), (.slice none 0 0)] 88 false)) K' =
  onV (oBuild Try.prog 91 [(0, p1), (1, p2), (2, p3)]) fun v1 =>
  onH (gStore Try.prog 91 (.pointer (some ⟨(GH.push (GH.push H (.row (Value.cells p0).toList 88 false)) (.row [(.slice none 0 0), (.slice none 0 0)] 88 false)).n, 0, none⟩)) v1 (GH.push (GH.push (GH.push H (.row (Value.cells p0).toList 88 false)) (.row [(.slice none 0 0), (.slice none 0 0)] 88 false)) (.row [(.int .i64 0), (.int .i64 0), (.int .i64 0)] 91 false))) fun H2 =>
  K' (FG 85 (fun _ => undef) [(11, (.pointer (some ⟨(GH.push (GH.push H (.row (Value.cells p0).toList 88 false)) (.row [(.slice none 0 0), (.slice none 0 0)] 88 false)).n, 0, none⟩))), (20, v1), (19, p3), (18, p2), (17, p1), (10, (.int .i64 0)), (9, (.int .i64 0)), (8, (.pointer (some ⟨(GH.push H (.row (Value.cells p0).toList 88 false)).n, 0, none⟩))), (4, (.pointer (some ⟨H.n, 0, none⟩))), (3, p3), (2, p2), (1, p1), (0, p0)]) H2 := by kernel_rfl
theorem s38_2 : o38 0 call [1,1,0,0] 0 (FG 85 (fun _ => undef) [(11, (.pointer (some ⟨(GH.push (GH.push H (.row (Value.cells p0).toList 88 false)) (.row [(.slice none 0 0), (.slice none 0 0)] 88 false)).n, 0, none⟩))), (20, v1), (19, p3), (18, p2), (17, p1), (10, (.int .i64 0)), (9, (.int .i64 0)), (8, (.pointer (some ⟨(GH.push H (.row (Value.cells p0).toList 88 false)).n, 0, none⟩))), (4, (.pointer (some ⟨H.n, 0, none⟩))), (3, p3), (2, p2), (1, p1), (0, p0)]) H2 K' =
  onV (gLoad Try.prog 88 (.pointer (some ⟨H.n, 0, none⟩)) H2) fun v3 =>
  onCall 0 call (.func (.func 34) #[] #[]) [v3] H2 fun v4 H5 =>
  K' (FG 85 (fun _ => undef) [(12, v4), (22, v4), (21, v3), (11, (.pointer (some ⟨(GH.push (GH.push H (.row (Value.cells p0).toList 88 false)) (.row [(.slice none 0 0), (.slice none 0 0)] 88 false)).n, 0, none⟩))), (20, v1), (19, p3), (18, p2), (17, p1), (10, (.int .i64 0)), (9, (.int .i64 0)), (8, (.pointer (some ⟨(GH.push H (.row (Value.cells p0).toList 88 false)).n, 0, none⟩))), (4, (.pointer (some ⟨H.n, 0, none⟩))), (3, p3), (2, p2), (1, p1), (0, p0)]) H5 := by kernel_rfl
theorem s38_3 : o38 0 call [1,1,0,1,0] 0 (FG 85 (fun _ => undef) [(12, v4), (22, v4), (21, v3), (11, (.pointer (some ⟨(GH.push (GH.push H (.row (Value.cells p0).toList 88 false)) (.row [(.slice none 0 0), (.slice none 0 0)] 88 false)).n, 0, none⟩))), (20, v1), (19, p3), (18, p2), (17, p1), (10, (.int .i64 0)), (9, (.int .i64 0)), (8, (.pointer (some ⟨(GH.push H (.row (Value.cells p0).toList 88 false)).n, 0, none⟩))), (4, (.pointer (some ⟨H.n, 0, none⟩))), (3, p3), (2, p2), (1, p1), (0, p0)]) H5 K' =
  onV ((oBin Try.prog .neq 27 v4 (.int .i64 0)).filter closed) fun v6 =>
  K' (FG 85 (fun _ => undef) [(24, v6), (23, v4), (12, v4), (22, v4), (21, v3), (11, (.pointer (some ⟨(GH.push (GH.push H (.row (Value.cells p0).toList 88 false)) (.row [(.slice none 0 0), (.slice none 0 0)] 88 false)).n, 0, none⟩))), (20, v1), (19, p3), (18, p2), (17, p1), (10, (.int .i64 0)), (9, (.int .i64 0)), (8, (.pointer (some ⟨(GH.push H (.row (Value.cells p0).toList 88 false)).n, 0, none⟩))), (4, (.pointer (some ⟨H.n, 0, none⟩))), (3, p3), (2, p2), (1, p1), (0, p0)]) H5 := by kernel_rfl
theorem s38_4 : o38 0 call [1,1,1,0,0] 0 (FG 85 (fun _ => undef) [(24, v6), (23, v4), (12, v4), (22, v4), (21, v3), (11, (.pointer (some ⟨(GH.push (GH.push H (.row (Value.cells p0).toList 88 false)) (.row [(.slice none 0 0), (.slice none 0 0)] 88 false)).n, 0, none⟩))), (20, v1), (19, p3), (18, p2), (17, p1), (10, (.int .i64 0)), (9, (.int .i64 0)), (8, (.pointer (some ⟨(GH.push H (.row (Value.cells p0).toList 88 false)).n, 0, none⟩))), (4, (.pointer (some ⟨H.n, 0, none⟩))), (3, p3), (2, p2), (1, p1), (0, p0)]) H5 K' =
  onV (gLoad Try.prog 91 (.pointer (some ⟨(GH.push (GH.push H (.row (Value.cells p0).toList 88 false)) (.row [(.slice none 0 0), (.slice none 0 0)] 88 false)).n, 0, none⟩)) H5) fun v7 =>
  onCall 0 call (.func (.func 95) #[] #[]) [v7] H5 fun v8 H9 =>
  onV ((oUn Try.prog .not v8).filter closed) fun v10 =>
  K' (FG 85 (fun _ => undef) [(29, v10), (28, v8), (27, v7), (24, v6), (23, v4), (12, v4), (22, v4), (21, v3), (11, (.pointer (some ⟨(GH.push (GH.push H (.row (Value.cells p0).toList 88 false)) (.row [(.slice none 0 0), (.slice none 0 0)] 88 false)).n, 0, none⟩))), (20, v1), (19, p3), (18, p2), (17, p1), (10, (.int .i64 0)), (9, (.int .i64 0)), (8, (.pointer (some ⟨(GH.push H (.row (Value.cells p0).toList 88 false)).n, 0, none⟩))), (4, (.pointer (some ⟨H.n, 0, none⟩))), (3, p3), (2, p2), (1, p1), (0, p0)]) H9 := by kernel_rfl
theorem s38_5 : o38 0 call [1,1,0,1,1,0,0] 0 (FF 85 d) H K' =
  onH (gStore Try.prog 88 (d 8) (.agg #[(.slice none 0 0), (.slice none 0 0)]) H) fun H1 =>
  K' (FG 85 d [(10, (d 12)), (9, (.int .i64 0)), (26, (d 12)), (25, (.agg #[(.slice none 0 0), (.slice none 0 0)]))]) H1 := by kernel_rfl
theorem s38_6 : o38 0 call [1,1,1,0,1,0,0] 0 (FF 85 d) H K' =
  onH (gStore Try.prog 88 (d 8) (.agg #[(.slice none 0 0), (.slice none 0 0)]) H) fun H1 =>
  K' (FG 85 d [(10, (.int .i64 1)), (9, (.int .i64 0)), (30, (.agg #[(.slice none 0 0), (.slice none 0 0)]))]) H1 := by kernel_rfl
theorem s38_7 : o38 0 call [1,1,1,1,0] 0 (FF 85 d) H K' =
  onV (oFieldAddr Try.prog 88 (d 4) 1) fun v1 =>
  onV (gLoad Try.prog 86 v1 H) fun v2 =>
  onV (gLoad Try.prog 91 (d 11) H) fun v3 =>
  onCall 0 call (.func (.func 103) #[] #[]) [v2, v3, (.func (.func 96) #[] #[])] H fun v4 H5 =>
  onV (oExtract v4 0) fun v6 =>
  onV (oExtract v4 1) fun v7 =>
  K' (FG 85 d [(14, v7), (13, v6), (37, v7), (36, v6), (31, v4), (35, v4), (34, v3), (33, v2), (32, v1)]) H5 := by kernel_rfl
theorem s38_8 : o38 0 call [1,1,1,1,1,0,0,0] 0 (FG 85 d [(14, v7), (13, v6), (37, v7), (36, v6), (31, v4), (35, v4), (34, v3), (33, v2), (32, v1)]) H5 K' =
  onV ((oUn Try.prog .not v7).filter closed) fun v8 =>
  K' (FG 85 d [(38, v8), (40, v8), (39, v7), (14, v7), (13, v6), (37, v7), (36, v6), (31, v4), (35, v4), (34, v3), (33, v2), (32, v1)]) H5 := by kernel_rfl
theorem s38_9 : o38 0 call [1,1,1,1,1,0,0,1,0,0] 0 (FG 85 d [(38, v8), (40, v8), (39, v7), (14, v7), (13, v6), (37, v7), (36, v6), (31, v4), (35, v4), (34, v3), (33, v2), (32, v1)]) H5 K' =
  onH (gStore Try.prog 88 (d 8) (.agg #[(.slice none 0 0), (.slice none 0 0)]) H5) fun H9 =>
  K' (FG 85 d [(10, (.int .i64 7)), (9, (.int .i64 0)), (41, (.agg #[(.slice none 0 0), (.slice none 0 0)])), (38, v8), (40, v8), (39, v7), (14, v7), (13, v6), (37, v7), (36, v6), (31, v4), (35, v4), (34, v3), (33, v2), (32, v1)]) H9 := by kernel_rfl
theorem s38_10 : o38 0 call [1,1,1,1,1,0,0,1,1,0] 0 (FF 85 d) H K' =
  onV (oFieldAddr Try.prog 88 (d 4) 1) fun v1 =>
  onV (gLoad Try.prog 86 v1 H) fun v2 =>
  onV (oIndexAddr Try.prog 86 v2 (d 13)) fun v3 =>
  onV (oFieldAddr Try.prog 91 v3 2) fun v4 =>
  onV (gLoad Try.prog 3 v4 H) fun v5 =>
  onV ((oBin Try.prog .lss 3 v5 (d 3)).filter closed) fun v6 =>
  K' (FG 85 d [(42, v6), (50, v6), (49, (d 3)), (48, v5), (47, v4), (46, v3), (45, (d 13)), (44, v2), (43, v1)]) H := by kernel_rfl
theorem s38_11 : o38 0 call [1,1,1,1,1,0,0,1,1,1,0,0] 0 (FG 85 d [(42, v6), (50, v6), (49, (d 3)), (48, v5), (47, v4), (46, v3), (45, (d 13)), (44, v2), (43, v1)]) H K' =
  onH (gStore Try.prog 88 (d 8) (.agg #[(.slice none 0 0), (.slice none 0 0)]) H) fun H7 =>
  K' (FG 85 d [(10, (.int .i64 18)), (9, (.int .i64 0)), (51, (.agg #[(.slice none 0 0), (.slice none 0 0)])), (42, v6), (50, v6), (49, (d 3)), (48, v5), (47, v4), (46, v3), (45, (d 13)), (44, v2), (43, v1)]) H7 := by kernel_rfl
theorem s38_12 : o38 0 call [1,1,1,1,1,1,0] 0 (FG 85 d [(42, v6), (50, v6), (49, (d 3)), (48, v5), (47, v4), (46, v3), (45, (d 13)), (44, v2), (43, v1)]) H K' =
  onV (gLoad Try.prog 88 (d 4) H) fun v8 =>
  onCall 0 call (.func (.func 99) #[] #[]) [v8] H fun v9 H10 =>
  onH (gStore Try.prog 88 (.pointer (some ⟨H10.n, 0, none⟩)) v9 (GH.push H10 (.row [(.slice none 0 0), (.slice none 0 0)] 88 false))) fun H11 =>
  K' (FG 85 d [(15, (.pointer (some ⟨H10.n, 0, none⟩))), (53, v9), (52, v8), (42, v6), (50, v6), (49, (d 3)), (48, v5), (47, v4), (46, v3), (45, (d 13)), (44, v2), (43, v1)]) H11 := by kernel_rfl
theorem s38_13 : o38 0 call [1,1,1,1,1,1,1,0] 0 (FF 85 d) H K' =
  onCall 0 call (.func (.func 108) #[] #[]) [(d 15), (d 2), (d 3)] H fun v1 H2 =>
  K' (FG 85 d [(16, v1), (56, v1), (55, (d 3)), (54, (d 2))]) H2 := by kernel_rfl
theorem s38_14 : o38 0 call [1,1,1,1,1,1,1,1,0,0] 0 (FG 85 d [(16, v1), (56, v1), (55, (d 3)), (54, (d 2))]) H2 K' =
  onV (oFieldAddr Try.prog 88 (d 15) 1) fun v3 =>
  onV (gLoad Try.prog 86 v3 H2) fun v4 =>
  onV (oIndexAddr Try.prog 86 v4 (d 13)) fun v5 =>
  onV (oFieldAddr Try.prog 91 v5 2) fun v6 =>
  onV (gLoad Try.prog 3 v6 H2) fun v7 =>
  onV ((oBin Try.prog .sub 3 v7 (d 3)).filter closed) fun v8 =>
  onV (oIndexAddr Try.prog 86 v4 (d 13)) fun v9 =>
  onV (oFieldAddr Try.prog 91 v9 2) fun v10 =>
  onH (gStore Try.prog 3 v10 v8 H2) fun H11 =>
  K' (FG 85 d [(66, v10), (65, v9), (64, v8), (63, (d 3)), (62, v7), (61, v6), (60, v5), (59, (d 13)), (58, v4), (57, v3), (16, v1), (56, v1), (55, (d 3)), (54, (d 2))]) H11 := by kernel_rfl
theorem s38_15 : o38 0 call [1,1,1,1,1,1,1,1,0,1,0] 0 (FF 85 d) H K' =
  onV (oFieldAddr Try.prog 88 (d 15) 1) fun v1 =>
  onV (gLoad Try.prog 86 v1 H) fun v2 =>
  onV (oIndexAddr Try.prog 86 v2 (d 13)) fun v3 =>
  onV (oFieldAddr Try.prog 91 v3 2) fun v4 =>
  onV (gLoad Try.prog 3 v4 H) fun v5 =>
  onV ((oBin Try.prog .eql 3 v5 (.int .i64 0)).filter closed) fun v6 =>
  K' (FG 85 d [(73, v6), (72, v5), (71, v4), (70, v3), (69, (d 13)), (68, v2), (67, v1)]) H := by kernel_rfl
theorem s38_16 : o38 0 call [1,1,1,1,1,1,1,1,0,1,1,0] 0 (FF 85 d) H K' =
  onV (oFieldAddr Try.prog 88 (d 15) 1) fun v1 =>
  onV (gLoad Try.prog 86 v1 H) fun v2 =>
  onV ((oBin Try.prog .add 3 (d 13) (.int .i64 1)).filter closed) fun v3 =>
  onCall 0 call (.func (.func 109) #[] #[]) [v2, (d 13), v3] H fun v4 H5 =>
  onV (oFieldAddr Try.prog 88 (d 15) 1) fun v6 =>
  onH (gStore Try.prog 86 v6 v4 H5) fun H7 =>
  K' (FG 85 d [(80, v6), (79, v4), (78, v3), (77, (d 13)), (76, (d 13)), (75, v2), (74, v1)]) H7 := by kernel_rfl
theorem s38_17 : o38 0 call [1,1,1,1,1,1,1,1,1,0] 0 (FF 85 d) H K' =
  onV (gLoad Try.prog 88 (d 15) H) fun v1 =>
  onCall 0 call (.func (.func 99) #[] #[]) [v1] H fun v2 H3 =>
  onV ((oBin Try.prog .sub 3 (d 16) (.int .i64 1)).filter closed) fun v4 =>
  onH (gStore Try.prog 88 (d 8) v2 H3) fun H5 =>
  K' (FG 85 d [(10, (.int .i64 0)), (9, v4), (84, v4), (83, (d 16)), (82, v2), (81, v1)]) H5 := by kernel_rfl
noncomputable def f38_r4 (call : Handle) (k : Nat) (x8 x12 : Value) (H : GH) : M (Value × GH) :=
  onH (gStore Try.prog 88 x8 (.agg #[(.slice none 0 0), (.slice none 0 0)]) H) fun H1 =>
  onV (gResL Try.prog H1 [(x8, some 88), ((.int .i64 0), none), (x12, none)]) fun v => some [(v, H1)]
theorem f38_r4_eq (call : Handle) (k : Nat) : g38 call k [1,1,0,1,1,0,0] (FF 85 d) H (hSeq (g38 call k [1,1,0,1,1,0,1]) (hSeq (g38 call k [1,1,1]) (hFin Try.prog Try.f38))) = f38_r4 call k (d 8) (d 12) H := by
  unfold f38_r4
  rw [n38_19]
  rw [s38_5]
  refine onH_c fun H1 => ?_
  rw [hSeq_n]
  rw [n38_20]
  rw [hSeq_r]
  kernel_rfl
noncomputable def f38_r6 (call : Handle) (k : Nat) (x8 : Value) (H : GH) : M (Value × GH) :=
  onH (gStore Try.prog 88 x8 (.agg #[(.slice none 0 0), (.slice none 0 0)]) H) fun H1 =>
  onV (gResL Try.prog H1 [(x8, some 88), ((.int .i64 0), none), ((.int .i64 1), none)]) fun v => some [(v, H1)]
theorem f38_r6_eq (call : Handle) (k : Nat) : g38 call k [1,1,1,0,1,0,0] (FF 85 d) H (hSeq (g38 call k [1,1,1,0,1,0,1]) (hSeq (g38 call k [1,1,1,1]) (hFin Try.prog Try.f38))) = f38_r6 call k (d 8) H := by
  unfold f38_r6
  rw [n38_21]
  rw [s38_6]
  refine onH_c fun H1 => ?_
  rw [hSeq_n]
  rw [n38_22]
  rw [hSeq_r]
  kernel_rfl
noncomputable def f38_r17 (call : Handle) (k : Nat) (x8 x15 x16 : Value) (H : GH) : M (Value × GH) :=
  onV (gLoad Try.prog 88 x15 H) fun v1 =>
  onCall 0 call (.func (.func 99) #[] #[]) [v1] H fun v2 H3 =>
  onV ((oBin Try.prog .sub 3 x16 (.int .i64 1)).filter closed) fun v4 =>
  onH (gStore Try.prog 88 x8 v2 H3) fun H5 =>
  onV (gResL Try.prog H5 [(x8, some 88), (v4, none), ((.int .i64 0), none)]) fun v => some [(v, H5)]
theorem f38_r17_eq (call : Handle) (k : Nat) : g38 call k [1,1,1,1,1,1,1,1,1] (FF 85 d) H (hFin Try.prog Try.f38) = f38_r17 call k (d 8) (d 15) (d 16) H := by
  unfold f38_r17
  rw [n38_51]
  rw [n38_52]
  rw [s38_17]
  refine onV_c fun v1 => ?_
  refine onCall_c fun v2 H3 => ?_
  refine onV_c fun v4 => ?_
  refine onH_c fun H5 => ?_
  rw [hSeq_n]
  rw [n38_53]
  kernel_rfl
noncomputable def f38_r16 (call : Handle) (k : Nat) (x8 x13 x15 x16 : Value) (H : GH) : M (Value × GH) :=
  onV (oFieldAddr Try.prog 88 x15 1) fun v1 =>
  onV (gLoad Try.prog 86 v1 H) fun v2 =>
  onV ((oBin Try.prog .add 3 x13 (.int .i64 1)).filter closed) fun v3 =>
  onCall 0 call (.func (.func 109) #[] #[]) [v2, x13, v3] H fun v4 H5 =>
  onV (oFieldAddr Try.prog 88 x15 1) fun v6 =>
  onH (gStore Try.prog 86 v6 v4 H5) fun H7 =>
  (f38_r17 call k x8 x15 x16 H7)
theorem f38_r16_eq (call : Handle) (k : Nat) : g38 call k [1,1,1,1,1,1,1,1,0,1,1,0] (FF 85 d) H (hSeq (g38 call k [1,1,1,1,1,1,1,1,1]) (hFin Try.prog Try.f38)) = f38_r16 call k (d 8) (d 13) (d 15) (d 16) H := by
  unfold f38_r16
  rw [n38_50]
  rw [s38_16]
  refine onV_c fun v1 => ?_
  refine onV_c fun v2 => ?_
  refine onV_c fun v3 => ?_
  refine onCall_c fun v4 H5 => ?_
  refine onV_c fun v6 => ?_
  refine onH_c fun H7 => ?_
  rw [hSeq_n]
  generalize e : (FG 85 d [(80, v6), (79, v4), (78, v3), (77, (d 13)), (76, (d 13)), (75, v2), (74, v1)]) = a
  rw [show a = (FF 85 (gf a)) from (FF_gf (by subst e; exact FG_len)).symm]
  exact (f38_r17_eq (d := gf a) call k).trans (by subst e; kernel_rfl)
noncomputable def f38_r15 (call : Handle) (k : Nat) (x8 x13 x15 x16 : Value) (H : GH) : M (Value × GH) :=
  onV (oFieldAddr Try.prog 88 x15 1) fun v1 =>
  onV (gLoad Try.prog 86 v1 H) fun v2 =>
  onV (oIndexAddr Try.prog 86 v2 x13) fun v3 =>
  onV (oFieldAddr Try.prog 91 v3 2) fun v4 =>
  onV (gLoad Try.prog 3 v4 H) fun v5 =>
  onV ((oBin Try.prog .eql 3 v5 (.int .i64 0)).filter closed) fun v6 =>
  onBool (asB v6)
  ((f38_r16 call k x8 x13 x15 x16 H))
  ((f38_r17 call k x8 x15 x16 H))
theorem f38_r15_eq (call : Handle) (k : Nat) : g38 call k [1,1,1,1,1,1,1,1,0,1,0] (FF 85 d) H (hSeq (g38 call k [1,1,1,1,1,1,1,1,0,1,1]) (hSeq (g38 call k [1,1,1,1,1,1,1,1,1]) (hFin Try.prog Try.f38))) = f38_r15 call k (d 8) (d 13) (d 15) (d 16) H := by
  unfold f38_r15
  rw [n38_47]
  rw [s38_15]
  refine onV_c fun v1 => ?_
  refine onV_c fun v2 => ?_
  refine onV_c fun v3 => ?_
  refine onV_c fun v4 => ?_
  refine onV_c fun v5 => ?_
  refine onV_c fun v6 => ?_
  rw [hSeq_n]
  rw [n38_48]
  refine onBool_cc (by kernel_rfl) ?_ ?_
  · generalize e : (FG 85 d [(73, v6), (72, v5), (71, v4), (70, v3), (69, (d 13)), (68, v2), (67, v1)]) = a
    rw [show a = (FF 85 (gf a)) from (FF_gf (by subst e; exact FG_len)).symm]
    exact (f38_r16_eq (d := gf a) call k).trans (by subst e; kernel_rfl)
  · rw [n38_49]
    rw [hSeq_n]
    generalize e : (FG 85 d [(73, v6), (72, v5), (71, v4), (70, v3), (69, (d 13)), (68, v2), (67, v1)]) = a
    rw [show a = (FF 85 (gf a)) from (FF_gf (by subst e; exact FG_len)).symm]
    exact (f38_r17_eq (d := gf a) call k).trans (by subst e; kernel_rfl)
noncomputable def f38_r13 (call : Handle) (k : Nat) (x2 x3 x8 x13 x15 : Value) (H : GH) : M (Value × GH) :=
  onCall 0 call (.func (.func 108) #[] #[]) [x15, x2, x3] H fun v1 H2 =>
  onV (oFieldAddr Try.prog 88 x15 1) fun v3 =>
  onV (gLoad Try.prog 86 v3 H2) fun v4 =>
  onV (oIndexAddr Try.prog 86 v4 x13) fun v5 =>
  onV (oFieldAddr Try.prog 91 v5 2) fun v6 =>
  onV (gLoad Try.prog 3 v6 H2) fun v7 =>
  onV ((oBin Try.prog .sub 3 v7 x3).filter closed) fun v8 =>
  onV (oIndexAddr Try.prog 86 v4 x13) fun v9 =>
  onV (oFieldAddr Try.prog 91 v9 2) fun v10 =>
  onH (gStore Try.prog 3 v10 v8 H2) fun H11 =>
  (f38_r15 call k x8 x13 x15 v1 H11)
theorem f38_r13_eq (call : Handle) (k : Nat) : g38 call k [1,1,1,1,1,1,1,0] (FF 85 d) H (hSeq (g38 call k [1,1,1,1,1,1,1,1]) (hFin Try.prog Try.f38)) = f38_r13 call k (d 2) (d 3) (d 8) (d 13) (d 15) H := by
  unfold f38_r13
  rw [n38_42]
  rw [s38_13]
  refine onCall_c fun v1 H2 => ?_
  rw [hSeq_n]
  rw [n38_43]
  rw [n38_44]
  rw [n38_45]
  rw [s38_14]
  refine onV_c fun v3 => ?_
  refine onV_c fun v4 => ?_
  refine onV_c fun v5 => ?_
  refine onV_c fun v6 => ?_
  refine onV_c fun v7 => ?_
  refine onV_c fun v8 => ?_
  refine onV_c fun v9 => ?_
  refine onV_c fun v10 => ?_
  refine onH_c fun H11 => ?_
  rw [hSeq_n]
  rw [n38_46]
  generalize e : (FG 85 d [(66, v10), (65, v9), (64, v8), (63, (d 3)), (62, v7), (61, v6), (60, v5), (59, (d 13)), (58, v4), (57, v3), (16, v1), (56, v1), (55, (d 3)), (54, (d 2))]) = a
  rw [show a = (FF 85 (gf a)) from (FF_gf (by subst e; exact FG_len)).symm]
  exact (f38_r15_eq (d := gf a) call k).trans (by subst e; kernel_rfl)
noncomputable def f38_r10 (call : Handle) (k : Nat) (x2 x3 x4 x8 x13 : Value) (H : GH) : M (Value × GH) :=
  onV (oFieldAddr Try.prog 88 x4 1) fun v1 =>
  onV (gLoad Try.prog 86 v1 H) fun v2 =>
  onV (oIndexAddr Try.prog 86 v2 x13) fun v3 =>
  onV (oFieldAddr Try.prog 91 v3 2) fun v4 =>
  onV (gLoad Try.prog 3 v4 H) fun v5 =>
  onV ((oBin Try.prog .lss 3 v5 x3).filter closed) fun v6 =>
  onBool (asB v6)
  (onH (gStore Try.prog 88 x8 (.agg #[(.slice none 0 0), (.slice none 0 0)]) H) fun H7 =>
  onV (gResL Try.prog H7 [(x8, some 88), ((.int .i64 0), none), ((.int .i64 18), none)]) fun v => some [(v, H7)])
  (onV (gLoad Try.prog 88 x4 H) fun v8 =>
  onCall 0 call (.func (.func 99) #[] #[]) [v8] H fun v9 H10 =>
  onH (gStore Try.prog 88 (.pointer (some ⟨H10.n, 0, none⟩)) v9 (GH.push H10 (.row [(.slice none 0 0), (.slice none 0 0)] 88 false))) fun H11 =>
  (f38_r13 call k x2 x3 x8 x13 (.pointer (some ⟨H10.n, 0, none⟩)) H11))
theorem f38_r10_eq (call : Handle) (k : Nat) : g38 call k [1,1,1,1,1,0,0,1,1,0] (FF 85 d) H (hSeq (g38 call k [1,1,1,1,1,0,0,1,1,1]) (hBlock 0 (hSeq (g38 call k [1,1,1,1,1,1]) (hFin Try.prog Try.f38)))) = f38_r10 call k (d 2) (d 3) (d 4) (d 8) (d 13) H := by
  unfold f38_r10
  rw [n38_33]
  rw [s38_10]
  refine onV_c fun v1 => ?_
  refine onV_c fun v2 => ?_
  refine onV_c fun v3 => ?_
  refine onV_c fun v4 => ?_
  refine onV_c fun v5 => ?_
  refine onV_c fun v6 => ?_
  rw [hSeq_n]
  rw [n38_34]
  refine onBool_cc (by kernel_rfl) ?_ ?_
  · rw [n38_35]
    rw [n38_36]
    rw [s38_11]
    refine onH_c fun H7 => ?_
    rw [hSeq_n]
    rw [n38_37]
    rw [hBlock_r, hSeq_r]
    kernel_rfl
  · rw [n38_38]
    rw [hBlock_n]
    rw [hSeq_n]
    rw [n38_39]
    rw [n38_40]
    rw [s38_12]
    refine onV_c fun v8 => ?_
    refine onCall_c fun v9 H10 => ?_
    refine onH_c fun H11 => ?_
    rw [hSeq_n]
    rw [n38_41]
    generalize e : (FG 85 d [(15, (.pointer (some ⟨H10.n, 0, none⟩))), (53, v9), (52, v8), (42, v6), (50, v6), (49, (d 3)), (48, v5), (47, v4), (46, v3), (45, (d 13)), (44, v2), (43, v1)]) = a
    rw [show a = (FF 85 (gf a)) from (FF_gf (by subst e; exact FG_len)).symm]
    exact (f38_r13_eq (d := gf a) call k).trans (by subst e; kernel_rfl)
noncomputable def f38_r7 (call : Handle) (k : Nat) (x2 x3 x4 x8 x11 : Value) (H : GH) : M (Value × GH) :=
  onV (oFieldAddr Try.prog 88 x4 1) fun v1 =>
  onV (gLoad Try.prog 86 v1 H) fun v2 =>
  onV (gLoad Try.prog 91 x11 H) fun v3 =>
  onCall 0 call (.func (.func 103) #[] #[]) [v2, v3, (.func (.func 96) #[] #[])] H fun v4 H5 =>
  onV (oExtract v4 0) fun v6 =>
  onV (oExtract v4 1) fun v7 =>
  onV ((oUn Try.prog .not v7).filter closed) fun v8 =>
  onBool (asB v8)
  (onH (gStore Try.prog 88 x8 (.agg #[(.slice none 0 0), (.slice none 0 0)]) H5) fun H9 =>
  onV (gResL Try.prog H9 [(x8, some 88), ((.int .i64 0), none), ((.int .i64 7), none)]) fun v => some [(v, H9)])
  ((f38_r10 call k x2 x3 x4 x8 v6 H5))
theorem f38_r7_eq (call : Handle) (k : Nat) : g38 call k [1,1,1,1,0] (FF 85 d) H (hSeq (g38 call k [1,1,1,1,1]) (hFin Try.prog Try.f38)) = f38_r7 call k (d 2) (d 3) (d 4) (d 8) (d 11) H := by
  unfold f38_r7
  rw [n38_23]
  rw [s38_7]
  refine onV_c fun v1 => ?_
  refine onV_c fun v2 => ?_
  refine onV_c fun v3 => ?_
  refine onCall_c fun v4 H5 => ?_
  refine onV_c fun v6 => ?_
  refine onV_c fun v7 => ?_
  rw [hSeq_n]
  rw [n38_24]
  rw [n38_25]
  rw [n38_26]
  rw [n38_27]
  rw [s38_8]
  refine onV_c fun v8 => ?_
  rw [hSeq_n]
  rw [n38_28]
  refine onBool_cc (by kernel_rfl) ?_ ?_
  · rw [n38_29]
    rw [n38_30]
    rw [s38_9]
    refine onH_c fun H9 => ?_
    rw [hSeq_n]
    rw [n38_31]
    rw [hBlock_r, hSeq_r]
    kernel_rfl
  · rw [n38_32]
    generalize e : (FG 85 d [(38, v8), (40, v8), (39, v7), (14, v7), (13, v6), (37, v7), (36, v6), (31, v4), (35, v4), (34, v3), (33, v2), (32, v1)]) = a
    rw [show a = (FF 85 (gf a)) from (FF_gf (by subst e; exact FG_len)).symm]
    exact (f38_r10_eq (d := gf a) call k).trans (by subst e; kernel_rfl)
noncomputable def f38_sh (call : Handle) (k : Nat) (p0 p1 p2 p3 : Value) (H : GH) : M (Value × GH) :=
  onV (oBuild Try.prog 91 [(0, p1), (1, p2), (2, p3)]) fun v1 =>
  onH (gStore Try.prog 91 (.pointer (some ⟨(GH.push (GH.push H (.row (Value.cells p0).toList 88 false)) (.row [(.slice none 0 0), (.slice none 0 0)] 88 false)).n, 0, none⟩)) v1 (GH.push (GH.push (GH.push H (.row (Value.cells p0).toList 88 false)) (.row [(.slice none 0 0), (.slice none 0 0)] 88 false)) (.row [(.int .i64 0), (.int .i64 0), (.int .i64 0)] 91 false))) fun H2 =>
  onV (gLoad Try.prog 88 (.pointer (some ⟨H.n, 0, none⟩)) H2) fun v3 =>
  onCall 0 call (.func (.func 34) #[] #[]) [v3] H2 fun v4 H5 =>
  onV ((oBin Try.prog .neq 27 v4 (.int .i64 0)).filter closed) fun v6 =>
  onBool (asB v6)
  ((f38_r4 call k (.pointer (some ⟨(GH.push H (.row (Value.cells p0).toList 88 false)).n, 0, none⟩)) v4 H5))
  (onV (gLoad Try.prog 91 (.pointer (some ⟨(GH.push (GH.push H (.row (Value.cells p0).toList 88 false)) (.row [(.slice none 0 0), (.slice none 0 0)] 88 false)).n, 0, none⟩)) H5) fun v7 =>
  onCall 0 call (.func (.func 95) #[] #[]) [v7] H5 fun v8 H9 =>
  onV ((oUn Try.prog .not v8).filter closed) fun v10 =>
  onBool (asB v10)
  ((f38_r6 call k (.pointer (some ⟨(GH.push H (.row (Value.cells p0).toList 88 false)).n, 0, none⟩)) H9))
  ((f38_r7 call k p2 p3 (.pointer (some ⟨H.n, 0, none⟩)) (.pointer (some ⟨(GH.push H (.row (Value.cells p0).toList 88 false)).n, 0, none⟩)) (.pointer (some ⟨(GH.push (GH.push H (.row (Value.cells p0).toList 88 false)) (.row [(.slice none 0 0), (.slice none 0 0)] 88 false)).n, 0, none⟩)) H9)))
theorem f38_run (call : Handle) (k : Nat) (p0 p1 p2 p3 : Value) (H : GH) : g38 call k [] (FG 85 (fun _ => undef) [(3, p3), (2, p2), (1, p1), (0, p0)]) H (hFin Try.prog Try.f38) = f38_sh call k p0 p1 p2 p3 H := by
  unfold f38_sh
  rw [n38_0]
  rw [n38_1]
  rw [s38_0]
  rw [hSeq_n]
  rw [n38_2]
  rw [n38_3]
  rw [s38_1]
  refine onV_c fun v1 => ?_
  refine onH_c fun H2 => ?_
  rw [hSeq_n]
  rw [n38_4]
  rw [n38_5]
  rw [n38_6]
  rw [s38_2]
  refine onV_c fun v3 => ?_
  refine onCall_c fun v4 H5 => ?_
  rw [hSeq_n]
  rw [n38_7]
  rw [n38_8]
  rw [s38_3]
  refine onV_c fun v6 => ?_
  rw [hSeq_n]
  rw [n38_9]
  refine onBool_cc (by kernel_rfl) ?_ ?_
  · rw [n38_10]
    generalize e : (FG 85 (fun _ => undef) [(24, v6), (23, v4), (12, v4), (22, v4), (21, v3), (11, (.pointer (some ⟨(GH.push (GH.push H (.row (Value.cells p0).toList 88 false)) (.row [(.slice none 0 0), (.slice none 0 0)] 88 false)).n, 0, none⟩))), (20, v1), (19, p3), (18, p2), (17, p1), (10, (.int .i64 0)), (9, (.int .i64 0)), (8, (.pointer (some ⟨(GH.push H (.row (Value.cells p0).toList 88 false)).n, 0, none⟩))), (4, (.pointer (some ⟨H.n, 0, none⟩))), (3, p3), (2, p2), (1, p1), (0, p0)]) = a
    rw [show a = (FF 85 (gf a)) from (FF_gf (by subst e; exact FG_len)).symm]
    exact (f38_r4_eq (d := gf a) call k).trans (by subst e; kernel_rfl)
  · rw [n38_11]
    rw [hSeq_n]
    rw [n38_12]
    rw [n38_13]
    rw [n38_14]
    rw [s38_4]
    refine onV_c fun v7 => ?_
    refine onCall_c fun v8 H9 => ?_
    refine onV_c fun v10 => ?_
    rw [hSeq_n]
    rw [n38_15]
    refine onBool_cc (by kernel_rfl) ?_ ?_
    · rw [n38_16]
      generalize e : (FG 85 (fun _ => undef) [(29, v10), (28, v8), (27, v7), (24, v6), (23, v4), (12, v4), (22, v4), (21, v3), (11, (.pointer (some ⟨(GH.push (GH.push H (.row (Value.cells p0).toList 88 false)) (.row [(.slice none 0 0), (.slice none 0 0)] 88 false)).n, 0, none⟩))), (20, v1), (19, p3), (18, p2), (17, p1), (10, (.int .i64 0)), (9, (.int .i64 0)), (8, (.pointer (some ⟨(GH.push H (.row (Value.cells p0).toList 88 false)).n, 0, none⟩))), (4, (.pointer (some ⟨H.n, 0, none⟩))), (3, p3), (2, p2), (1, p1), (0, p0)]) = a
      rw [show a = (FF 85 (gf a)) from (FF_gf (by subst e; exact FG_len)).symm]
      exact (f38_r6_eq (d := gf a) call k).trans (by subst e; kernel_rfl)
    · rw [n38_17]
      rw [hSeq_n]
      rw [n38_18]
      generalize e : (FG 85 (fun _ => undef) [(29, v10), (28, v8), (27, v7), (24, v6), (23, v4), (12, v4), (22, v4), (21, v3), (11, (.pointer (some ⟨(GH.push (GH.push H (.row (Value.cells p0).toList 88 false)) (.row [(.slice none 0 0), (.slice none 0 0)] 88 false)).n, 0, none⟩))), (20, v1), (19, p3), (18, p2), (17, p1), (10, (.int .i64 0)), (9, (.int .i64 0)), (8, (.pointer (some ⟨(GH.push H (.row (Value.cells p0).toList 88 false)).n, 0, none⟩))), (4, (.pointer (some ⟨H.n, 0, none⟩))), (3, p3), (2, p2), (1, p1), (0, p0)]) = a
      rw [show a = (FF 85 (gf a)) from (FF_gf (by subst e; exact FG_len)).symm]
      exact (f38_r7_eq (d := gf a) call k).trans (by subst e; kernel_rfl)
theorem f38_eq (call : Handle) (k : Nat) (p0 p1 p2 p3 : Value) (H : GH) : gFunc Try.prog call k Try.f38 [p0, p1, p2, p3] H = f38_sh call k p0 p1 p2 p3 H :=
  Eq.trans (by kernel_rfl) (f38_run call k p0 p1 p2 p3 H)
end
noncomputable def g39 {β : Type} (call : Handle) (k : Nat) (p : List Nat) : GA → GH → Kont β → M β := gCode Try.prog call k (fAt Try.f39 p)
noncomputable def o39 {β : Type} (d : Nat) (call : Handle) (p : List Nat) (i : Nat) : GA → GH → (GA → GH → M β) → M β := gOps Try.prog d call (opsAt (fAt Try.f39 p)) ((opsAt (fAt Try.f39 p)).drop i)
noncomputable def t39 {β : Type} (d : Nat) (call : Handle) (p : List Nat) (i n : Nat) : GA → GH → (GA → GH → M β) → M β := gOps Try.prog d call (opsAt (fAt Try.f39 p)) (((opsAt (fAt Try.f39 p)).drop i).take n)
theorem o39_s {β : Type} {d : Nat} {call : Handle} {p : List Nat} {a : GA} {H : GH} {K : GA → GH → M β} (i n : Nat) : o39 d call p i a H K = t39 d call p i n a H fun a H => o39 d call p (i + n) a H K := gOps_split i n
section
variable {β : Type} {call : Handle} {k : Nat} {a : GA} {K : Kont β} {K' : GA → GH → M β}
variable {d : Nat → Value} {xg : Value}
variable {p0 p1 : Value}
variable {v1 v2 v4 : Value}
variable {H H3 : GH}
theorem n39_0 : g39 call k [] a H K = g39 call k [0] a H (hSeq (g39 call k [1]) K) := at_seq (by kernel_rfl)
theorem n39_1 : g39 call k [0] a H K = o39 0 call [0] 0 a H (K .normal) := at_region (by kernel_rfl)
theorem n39_2 : g39 call k [1] a H K = g39 call k [1,0] a H (hSeq (g39 call k [1,1]) K) := at_seq (by kernel_rfl)
theorem n39_3 : g39 call k [1,0] a H K = g39 call k [1,0,0] a H (hSeq (g39 call k [1,0,1]) K) := at_seq (by kernel_rfl)
theorem n39_4 : g39 call k [1,0,0] a H K = o39 0 call [1,0,0] 0 a H (K .normal) := at_region (by kernel_rfl)
theorem n39_5 : g39 call k [1,0,1] a H K = onBool (asB (GA.eval a (.tmp 7))) (g39 call k [1,0,1,0] a H K) (g39 call k [1,0,1,1] a H K) := at_cond (by kernel_rfl)
theorem n39_6 : g39 call k [1,0,1,0] a H K = g39 call k [1,0,1,0,0] a H (hSeq (g39 call k [1,0,1,0,1]) K) := at_seq (by kernel_rfl)
theorem n39_7 : g39 call k [1,0,1,0,0] a H K = o39 0 call [1,0,1,0,0] 0 a H (K .normal) := at_region (by kernel_rfl)
theorem n39_8 : g39 call k [1,0,1,0,1] a H K = K .ret a H := at_ret (by kernel_rfl)
theorem n39_9 : g39 call k [1,0,1,1] a H K = K .normal a H := at_skip (by kernel_rfl)
theorem n39_10 : g39 call k [1,1] a H K = g39 call k [1,1,0] a H (hSeq (g39 call k [1,1,1]) K) := at_seq (by kernel_rfl)
theorem n39_11 : g39 call k [1,1,0] a H K = o39 0 call [1,1,0] 0 a H (K .normal) := at_region (by kernel_rfl)
theorem n39_12 : g39 call k [1,1,1] a H K = K .ret a H := at_ret (by kernel_rfl)
theorem s39_0 : o39 0 call [0] 0 (FG 12 (fun _ => undef) [(1, p1), (0, p0)]) H K' =
  K' (FG 12 (fun _ => undef) [(4, (.int .i64 0)), (2, (.pointer (some ⟨H.n, 0, none⟩))), (1, p1), (0, p0)]) (GH.push H (.row (Value.cells p0).toList 88 false)) := by kernel_rfl
theorem s39_1 : o39 0 call [1,0,0] 0 (FG 12 (fun _ => undef) [(4, (.int .i64 0)), (2, (.pointer (some ⟨H.n, 0, none⟩))), (1, p1), (0, p0)]) (GH.push H (.row (Value.cells p0).toList 88 false)) K' =
  onV (gLoad Try.prog 88 (.pointer (some ⟨H.n, 0, none⟩)) (GH.push H (.row (Value.cells p0).toList 88 false))) fun v1 =>
  onCall 0 call (.func (.func 34) #[] #[]) [v1] (GH.push H (.row (Value.cells p0).toList 88 false)) fun v2 H3 =>
  onV ((oBin Try.prog .neq 27 v2 (.int .i64 0)).filter closed) fun v4 =>
  K' (FG 12 (fun _ => undef) [(7, v4), (6, v2), (5, v1), (4, (.int .i64 0)), (2, (.pointer (some ⟨H.n, 0, none⟩))), (1, p1), (0, p0)]) H3 := by kernel_rfl
theorem s39_2 : o39 0 call [1,0,1,0,0] 0 (FG 12 (fun _ => undef) [(7, v4), (6, v2), (5, v1), (4, (.int .i64 0)), (2, (.pointer (some ⟨H.n, 0, none⟩))), (1, p1), (0, p0)]) H3 K' =
  K' (FG 12 (fun _ => undef) [(4, (.int .i64 0)), (7, v4), (6, v2), (5, v1), (4, (.int .i64 0)), (2, (.pointer (some ⟨H.n, 0, none⟩))), (1, p1), (0, p0)]) H3 := by kernel_rfl
theorem s39_3 : o39 0 call [1,1,0] 0 (FG 12 (fun _ => undef) [(7, v4), (6, v2), (5, v1), (4, (.int .i64 0)), (2, (.pointer (some ⟨H.n, 0, none⟩))), (1, p1), (0, p0)]) H3 K' =
  onV (gLoad Try.prog 88 (.pointer (some ⟨H.n, 0, none⟩)) H3) fun v5 =>
  onCall 0 call (.func (.func 97) #[] #[]) [v5] H3 fun v6 H7 =>
  onV (gLookup Try.prog 186 v6 p1 false H7) fun v8 =>
  K' (FG 12 (fun _ => undef) [(4, v8), (11, v8), (10, p1), (9, v6), (8, v5), (7, v4), (6, v2), (5, v1), (4, (.int .i64 0)), (2, (.pointer (some ⟨H.n, 0, none⟩))), (1, p1), (0, p0)]) H7 := by kernel_rfl
noncomputable def f39_sh (call : Handle) (k : Nat) (p0 p1 : Value) (H : GH) : M (Value × GH) :=
  onV (gLoad Try.prog 88 (.pointer (some ⟨H.n, 0, none⟩)) (GH.push H (.row (Value.cells p0).toList 88 false))) fun v1 =>
  onCall 0 call (.func (.func 34) #[] #[]) [v1] (GH.push H (.row (Value.cells p0).toList 88 false)) fun v2 H3 =>
  onV ((oBin Try.prog .neq 27 v2 (.int .i64 0)).filter closed) fun v4 =>
  onBool (asB v4)
  (some [((.int .i64 0), H3)])
  (onV (gLoad Try.prog 88 (.pointer (some ⟨H.n, 0, none⟩)) H3) fun v5 =>
  onCall 0 call (.func (.func 97) #[] #[]) [v5] H3 fun v6 H7 =>
  onV (gLookup Try.prog 186 v6 p1 false H7) fun v8 =>
  some [(v8, H7)])
theorem f39_run (call : Handle) (k : Nat) (p0 p1 : Value) (H : GH) : g39 call k [] (FG 12 (fun _ => undef) [(1, p1), (0, p0)]) H (hFin Try.prog Try.f39) = f39_sh call k p0 p1 H := by
  unfold f39_sh
  rw [n39_0]
  rw [n39_1]
  rw [s39_0]
  rw [hSeq_n]
  rw [n39_2]
  rw [n39_3]
  rw [n39_4]
  rw [s39_1]
  refine onV_c fun v1 => ?_
  refine onCall_c fun v2 H3 => ?_
  refine onV_c fun v4 => ?_
  rw [hSeq_n]
  rw [n39_5]
  refine onBool_cc (by kernel_rfl) ?_ ?_
  · rw [n39_6]
    rw [n39_7]
    rw [s39_2]
    rw [hSeq_n]
    rw [n39_8]
    rw [hSeq_r]
    kernel_rfl
  · rw [n39_9]
    rw [hSeq_n]
    rw [n39_10]
    rw [n39_11]
    rw [s39_3]
    refine onV_c fun v5 => ?_
    refine onCall_c fun v6 H7 => ?_
    refine onV_c fun v8 => ?_
    rw [hSeq_n]
    rw [n39_12]
    kernel_rfl
theorem f39_eq (call : Handle) (k : Nat) (p0 p1 : Value) (H : GH) : gFunc Try.prog call k Try.f39 [p0, p1] H = f39_sh call k p0 p1 H :=
  Eq.trans (by kernel_rfl) (f39_run call k p0 p1 H)
end
noncomputable def g40 {β : Type} (call : Handle) (k : Nat) (p : List Nat) : GA → GH → Kont β → M β := gCode Try.prog call k (fAt Try.f40 p)
noncomputable def o40 {β : Type} (d : Nat) (call : Handle) (p : List Nat) (i : Nat) : GA → GH → (GA → GH → M β) → M β := gOps Try.prog d call (opsAt (fAt Try.f40 p)) ((opsAt (fAt Try.f40 p)).drop i)
noncomputable def t40 {β : Type} (d : Nat) (call : Handle) (p : List Nat) (i n : Nat) : GA → GH → (GA → GH → M β) → M β := gOps Try.prog d call (opsAt (fAt Try.f40 p)) (((opsAt (fAt Try.f40 p)).drop i).take n)
theorem o40_s {β : Type} {d : Nat} {call : Handle} {p : List Nat} {a : GA} {H : GH} {K : GA → GH → M β} (i n : Nat) : o40 d call p i a H K = t40 d call p i n a H fun a H => o40 d call p (i + n) a H K := gOps_split i n
section
variable {β : Type} {call : Handle} {k : Nat} {a : GA} {K : Kont β} {K' : GA → GH → M β}
variable {d : Nat → Value} {xg : Value}
variable {p0 p1 : Value}
variable {v1 v2 v3 v4 v5 v6 : Value}
variable {H H2 H3 : GH}
theorem n40_0 : g40 call k [] a H K = g40 call k [0] a H (hSeq (g40 call k [1]) K) := at_seq (by kernel_rfl)
theorem n40_1 : g40 call k [0] a H K = o40 0 call [0] 0 a H (K .normal) := at_region (by kernel_rfl)
theorem n40_2 : g40 call k [1] a H K = g40 call k [1,0] a H (hSeq (g40 call k [1,1]) K) := at_seq (by kernel_rfl)
theorem n40_3 : g40 call k [1,0] a H K = g40 call k [1,0,0] a H (hSeq (g40 call k [1,0,1]) K) := at_seq (by kernel_rfl)
theorem n40_4 : g40 call k [1,0,0] a H K = o40 0 call [1,0,0] 0 a H (K .normal) := at_region (by kernel_rfl)
theorem n40_5 : g40 call k [1,0,1] a H K = onBool (asB (GA.eval a (.tmp 10))) (g40 call k [1,0,1,0] a H K) (g40 call k [1,0,1,1] a H K) := at_cond (by kernel_rfl)
theorem n40_6 : g40 call k [1,0,1,0] a H K = g40 call k [1,0,1,0,0] a H (hSeq (g40 call k [1,0,1,0,1]) K) := at_seq (by kernel_rfl)
theorem n40_7 : g40 call k [1,0,1,0,0] a H K = o40 0 call [1,0,1,0,0] 0 a H (K .normal) := at_region (by kernel_rfl)
theorem n40_8 : g40 call k [1,0,1,0,1] a H K = K .ret a H := at_ret (by kernel_rfl)
theorem n40_9 : g40 call k [1,0,1,1] a H K = K .normal a H := at_skip (by kernel_rfl)
theorem n40_10 : g40 call k [1,1] a H K = g40 call k [1,1,0] a H (hSeq (g40 call k [1,1,1]) K) := at_seq (by kernel_rfl)
theorem n40_11 : g40 call k [1,1,0] a H K = o40 0 call [1,1,0] 0 a H (K .normal) := at_region (by kernel_rfl)
theorem n40_12 : g40 call k [1,1,1] a H K = g40 call k [1,1,1,0] a H (hSeq (g40 call k [1,1,1,1]) K) := at_seq (by kernel_rfl)
theorem n40_13 : g40 call k [1,1,1,0] a H K = g40 call k [1,1,1,0,0] a H (hSeq (g40 call k [1,1,1,0,1]) K) := at_seq (by kernel_rfl)
theorem n40_14 : g40 call k [1,1,1,0,0] a H K = o40 0 call [1,1,1,0,0] 0 a H (K .normal) := at_region (by kernel_rfl)
theorem n40_15 : g40 call k [1,1,1,0,1] a H K = g40 call k [1,1,1,0,1,0] a H (hBlock 0 K) := at_block (by kernel_rfl)
theorem n40_16 : g40 call k [1,1,1,0,1,0] a H K = gLoop (g40 call k [1,1,1,0,1,0,0]) K k a H := at_loop (by kernel_rfl)
theorem n40_17 : g40 call k [1,1,1,0,1,0,0] a H K = g40 call k [1,1,1,0,1,0,0,0] a H (hSeq (g40 call k [1,1,1,0,1,0,0,1]) K) := at_seq (by kernel_rfl)
theorem n40_18 : g40 call k [1,1,1,0,1,0,0,0] a H K = o40 0 call [1,1,1,0,1,0,0,0] 0 a H (K .normal) := at_region (by kernel_rfl)
theorem n40_19 : g40 call k [1,1,1,0,1,0,0,1] a H K = g40 call k [1,1,1,0,1,0,0,1,0] a H (hSeq (g40 call k [1,1,1,0,1,0,0,1,1]) K) := at_seq (by kernel_rfl)
theorem n40_20 : g40 call k [1,1,1,0,1,0,0,1,0] a H K = onBool (asB (GA.eval a (.tmp 16))) (g40 call k [1,1,1,0,1,0,0,1,0,0] a H K) (g40 call k [1,1,1,0,1,0,0,1,0,1] a H K) := at_cond (by kernel_rfl)
theorem n40_21 : g40 call k [1,1,1,0,1,0,0,1,0,0] a H K = K .normal a H := at_skip (by kernel_rfl)
theorem n40_22 : g40 call k [1,1,1,0,1,0,0,1,1] a H K = g40 call k [1,1,1,0,1,0,0,1,1,0] a H (hBlock 1 K) := at_block (by kernel_rfl)
theorem n40_23 : g40 call k [1,1,1,0,1,0,0,1,1,0] a H K = g40 call k [1,1,1,0,1,0,0,1,1,0,0] a H (hSeq (g40 call k [1,1,1,0,1,0,0,1,1,0,1]) K) := at_seq (by kernel_rfl)
theorem n40_24 : g40 call k [1,1,1,0,1,0,0,1,1,0,0] a H K = o40 0 call [1,1,1,0,1,0,0,1,1,0,0] 0 a H (K .normal) := at_region (by kernel_rfl)
theorem n40_25 : g40 call k [1,1,1,0,1,0,0,1,1,0,1] a H K = g40 call k [1,1,1,0,1,0,0,1,1,0,1,0] a H (hSeq (g40 call k [1,1,1,0,1,0,0,1,1,0,1,1]) K) := at_seq (by kernel_rfl)
theorem n40_26 : g40 call k [1,1,1,0,1,0,0,1,1,0,1,0] a H K = o40 0 call [1,1,1,0,1,0,0,1,1,0,1,0] 0 a H (K .normal) := at_region (by kernel_rfl)
theorem n40_27 : g40 call k [1,1,1,0,1,0,0,1,1,0,1,1] a H K = onBool (asB (GA.eval a (.tmp 21))) (g40 call k [1,1,1,0,1,0,0,1,1,0,1,1,0] a H K) (g40 call k [1,1,1,0,1,0,0,1,1,0,1,1,1] a H K) := at_cond (by kernel_rfl)
theorem n40_28 : g40 call k [1,1,1,0,1,0,0,1,1,0,1,1,1] a H K = K .normal a H := at_skip (by kernel_rfl)
theorem n40_29 : g40 call k [1,1,1,0,1,0,0,1,0,1] a H K = K (.exit 0) a H := at_exit (by kernel_rfl)
theorem n40_30 : g40 call k [1,1,1,0,1,0,0,1,1,0,1,1,0] a H K = o40 0 call [1,1,1,0,1,0,0,1,1,0,1,1,0] 0 a H (K .normal) := at_region (by kernel_rfl)
theorem n40_31 : g40 call k [1,1,1,1] a H K = g40 call k [1,1,1,1,0] a H (hSeq (g40 call k [1,1,1,1,1]) K) := at_seq (by kernel_rfl)
theorem n40_32 : g40 call k [1,1,1,1,0] a H K = o40 0 call [1,1,1,1,0] 0 a H (K .normal) := at_region (by kernel_rfl)
theorem n40_33 : g40 call k [1,1,1,1,1] a H K = g40 call k [1,1,1,1,1,0] a H (hSeq (g40 call k [1,1,1,1,1,1]) K) := at_seq (by kernel_rfl)
theorem n40_34 : g40 call k [1,1,1,1,1,0] a H K = o40 0 call [1,1,1,1,1,0] 0 a H (K .normal) := at_region (by kernel_rfl)
theorem n40_35 : g40 call k [1,1,1,1,1,1] a H K = K .ret a H := at_ret (by kernel_rfl)
theorem s40_0 : o40 0 call [0] 0 (FG 32 (fun _ => undef) [(1, p1), (0, p0)]) H K' =
  K' (FG 32 (fun _ => undef) [(4, (.slice none 0 0)), (2, (.pointer (some ⟨H.n, 0, none⟩))), (1, p1), (0, p0)]) (GH.push H (.row (Value.cells p0).toList 88 false)) := by kernel_rfl
theorem s40_1 : o40 0 call [1,0,0] 0 (FG 32 (fun _ => undef) [(4, (.slice none 0 0)), (2, (.pointer (some ⟨H.n, 0, none⟩))), (1, p1), (0, p0)]) (GH.push H (.row (Value.cells p0).toList 88 false)) K' =
  onV (gLoad Try.prog 88 (.pointer (some ⟨H.n, 0, none⟩)) (GH.push H (.row (Value.cells p0).toList 88 false))) fun v1 =>
  onCall 0 call (.func (.func 34) #[] #[]) [v1] (GH.push H (.row (Value.cells p0).toList 88 false)) fun v2 H3 =>
  onV ((oBin Try.prog .neq 27 v2 (.int .i64 0)).filter closed) fun v4 =>
  K' (FG 32 (fun _ => undef) [(10, v4), (9, v2), (8, v1), (4, (.slice none 0 0)), (2, (.pointer (some ⟨H.n, 0, none⟩))), (1, p1), (0, p0)]) H3 := by kernel_rfl
theorem s40_2 : o40 0 call [1,0,1,0,0] 0 (FG 32 (fun _ => undef) [(10, v4), (9, v2), (8, v1), (4, (.slice none 0 0)), (2, (.pointer (some ⟨H.n, 0, none⟩))), (1, p1), (0, p0)]) H3 K' =
  K' (FG 32 (fun _ => undef) [(4, (.slice none 0 0)), (10, v4), (9, v2), (8, v1), (4, (.slice none 0 0)), (2, (.pointer (some ⟨H.n, 0, none⟩))), (1, p1), (0, p0)]) H3 := by kernel_rfl
theorem s40_3 : o40 0 call [1,1,0] 0 (FG 32 (fun _ => undef) [(10, v4), (9, v2), (8, v1), (4, (.slice none 0 0)), (2, (.pointer (some ⟨H.n, 0, none⟩))), (1, p1), (0, p0)]) H3 K' =
  K' (FG 32 (fun _ => undef) [(5, (.slice none 0 0)), (10, v4), (9, v2), (8, v1), (4, (.slice none 0 0)), (2, (.pointer (some ⟨H.n, 0, none⟩))), (1, p1), (0, p0)]) H3 := by kernel_rfl
theorem s40_4 : o40 0 call [1,1,1,0,0] 0 (FG 32 (fun _ => undef) [(5, (.slice none 0 0)), (10, v4), (9, v2), (8, v1), (4, (.slice none 0 0)), (2, (.pointer (some ⟨H.n, 0, none⟩))), (1, p1), (0, p0)]) H3 K' =
  onV (gLoad Try.prog 88 (.pointer (some ⟨H.n, 0, none⟩)) H3) fun v5 =>
  onCall 0 call (.func (.func 102) #[] #[]) [v5, p1] H3 fun v6 H7 =>
  onVH (gRange Try.prog 186 v6 H7) fun v8 H9 =>
  K' (FG 32 (fun _ => undef) [(14, v8), (13, v6), (12, p1), (11, v5), (5, (.slice none 0 0)), (10, v4), (9, v2), (8, v1), (4, (.slice none 0 0)), (2, (.pointer (some ⟨H.n, 0, none⟩))), (1, p1), (0, p0)]) H9 := by kernel_rfl
theorem s40_5 : o40 0 call [1,1,1,0,1,0,0,0] 0 (FF 32 d) H K' =
  onNext 0 (gNext (d 14) false H) fun v1 H2 =>
  onV (oExtract v1 0) fun v3 =>
  K' (FG 32 d [(16, v3), (15, v1)]) H2 := by kernel_rfl
theorem s40_6 : o40 0 call [1,1,1,0,1,0,0,1,1,0,0] 0 (FG 32 d [(16, v3), (15, v1)]) H2 K' =
  onV (gEntry (d 14) H2) fun v4 =>
  onV (oExtract v4 0) fun v5 =>
  onV (oExtract v4 1) fun v6 =>
  K' (FG 32 d [(7, v6), (6, v5), (19, v6), (18, v5), (17, v4), (16, v3), (15, v1)]) H2 := by kernel_rfl
theorem s40_7 : o40 0 call [1,1,1,0,1,0,0,1,1,0,1,0] 0 (FG 32 d [(7, v6), (6, v5), (19, v6), (18, v5), (17, v4), (16, v3), (15, v1)]) H2 K' =
  onV ((oBin Try.prog .gtr 3 v6 (.int .i64 0)).filter closed) fun v7 =>
  K' (FG 32 d [(21, v7), (20, v6), (7, v6), (6, v5), (19, v6), (18, v5), (17, v4), (16, v3), (15, v1)]) H2 := by kernel_rfl
theorem s40_8 : o40 0 call [1,1,1,0,1,0,0,1,1,0,1,1,0] 0 (FF 32 d) H K' =
  onV (oBuild Try.prog 93 [(0, (d 6)), (1, (d 7))]) fun v1 =>
  onVH (gBuildSlice Try.prog 85 1 [(0, v1)] H) fun v2 H3 =>
  onVH (gAppend Try.prog 85 85 (d 5) v2 H3) fun v4 H5 =>
  K' (FG 32 d [(5, v4), (27, v4), (26, v2), (25, v1), (24, (d 7)), (23, (d 6)), (22, (d 5))]) H5 := by kernel_rfl
theorem s40_9 : o40 0 call [1,1,1,1,0] 0 (FF 32 d) H K' =
  onCall 0 call (.func (.func 110) #[] #[]) [(d 5), (.func (.func 111) #[] #[])] H fun v1 H2 =>
  K' (FG 32 d [(29, v1), (28, (d 5))]) H2 := by kernel_rfl
theorem s40_10 : o40 0 call [1,1,1,1,1,0] 0 (FG 32 d [(29, v1), (28, (d 5))]) H2 K' =
  onCall 0 call (.func (.func 113) #[] #[]) [(d 5)] H2 fun v3 H4 =>
  K' (FG 32 d [(4, v3), (31, v3), (30, (d 5)), (29, v1), (28, (d 5))]) H4 := by kernel_rfl
def f40_l5_P (ag : AG) (sg : Sg2) : Prop := ∀ (d : Nat → Value) (H : GH), ag (FF 32 d) H = sg (d 5) (d 14) H
theorem f40_l5_at {ag : AG} {sg : Sg2} (h : f40_l5_P ag sg) : ag (FF 32 d) H = sg (d 5) (d 14) H := h d H
noncomputable def f40_r8 (call : Handle) (k : Nat) (sg_l5 : Sg2) (x5 x6 x7 x14 : Value) (H : GH) : M (Value × GH) :=
  onV (oBuild Try.prog 93 [(0, x6), (1, x7)]) fun v1 =>
  onVH (gBuildSlice Try.prog 85 1 [(0, v1)] H) fun v2 H3 =>
  onVH (gAppend Try.prog 85 85 x5 v2 H3) fun v4 H5 =>
  (sg_l5 v4 x14 H5)
theorem f40_r8_eq (call : Handle) (k : Nat) (ag_l5 : AG) (sg_l5 : Sg2) (h_l5 : f40_l5_P ag_l5 sg_l5) : g40 call k [1,1,1,0,1,0,0,1,1,0,1,1,0] (FF 32 d) H (hBlock 1 (hLoop ag_l5 (hBlock 0 (hSeq (g40 call k [1,1,1,1]) (hFin Try.prog Try.f40))))) = f40_r8 call k sg_l5 (d 5) (d 6) (d 7) (d 14) H := by
  unfold f40_r8
  rw [n40_30]
  rw [s40_8]
  refine onV_c fun v1 => ?_
  refine onVH_c fun v2 H3 => ?_
  refine onVH_c fun v4 H5 => ?_
  rw [hBlock_n]
  rw [hLoop_n]
  generalize e : (FG 32 d [(5, v4), (27, v4), (26, v2), (25, v1), (24, (d 7)), (23, (d 6)), (22, (d 5))]) = a
  rw [show a = (FF 32 (gf a)) from (FF_gf (by subst e; exact FG_len)).symm]
  exact (f40_l5_at (d := gf a) h_l5).trans (by subst e; kernel_rfl)
noncomputable def f40_r9 (call : Handle) (k : Nat) (x5 : Value) (H : GH) : M (Value × GH) :=
  onCall 0 call (.func (.func 110) #[] #[]) [x5, (.func (.func 111) #[] #[])] H fun v1 H2 =>
  onCall 0 call (.func (.func 113) #[] #[]) [x5] H2 fun v3 H4 =>
  some [(v3, H4)]
theorem f40_r9_eq (call : Handle) (k : Nat) : g40 call k [1,1,1,1] (FF 32 d) H (hFin Try.prog Try.f40) = f40_r9 call k (d 5) H := by
  unfold f40_r9
  rw [n40_31]
  rw [n40_32]
  rw [s40_9]
  refine onCall_c fun v1 H2 => ?_
  rw [hSeq_n]
  rw [n40_33]
  rw [n40_34]
  rw [s40_10]
  refine onCall_c fun v3 H4 => ?_
  rw [hSeq_n]
  rw [n40_35]
  kernel_rfl
noncomputable def f40_l5b (call : Handle) (k : Nat) (sg_l5 : Sg2) (x5 x14 : Value) (H : GH) : M (Value × GH) :=
  onNext 0 (gNext x14 false H) fun v1 H2 =>
  onV (oExtract v1 0) fun v3 =>
  onBool (asB v3)
  (onV (gEntry x14 H2) fun v4 =>
  onV (oExtract v4 0) fun v5 =>
  onV (oExtract v4 1) fun v6 =>
  onV ((oBin Try.prog .gtr 3 v6 (.int .i64 0)).filter closed) fun v7 =>
  onBool (asB v7)
  ((f40_r8 call k (sg_l5) x5 v5 v6 x14 H2))
  ((sg_l5 x5 x14 H2)))
  ((f40_r9 call k x5 H2))
theorem f40_l5b_eq (call : Handle) (k : Nat) (ag_l5 : AG) (sg_l5 : Sg2) (h_l5 : f40_l5_P ag_l5 sg_l5) : g40 call k [1,1,1,0,1,0,0] (FF 32 d) H (hLoop ag_l5 (hBlock 0 (hSeq (g40 call k [1,1,1,1]) (hFin Try.prog Try.f40)))) = f40_l5b call k sg_l5 (d 5) (d 14) H := by
  unfold f40_l5b
  rw [n40_17]
  rw [n40_18]
  rw [s40_5]
  refine onNext_c fun v1 H2 => ?_
  refine onV_c fun v3 => ?_
  rw [hSeq_n]
  rw [n40_19]
  rw [n40_20]
  refine onBool_cc (by kernel_rfl) ?_ ?_
  · rw [n40_21]
    rw [hSeq_n]
    rw [n40_22]
    rw [n40_23]
    rw [n40_24]
    rw [s40_6]
    refine onV_c fun v4 => ?_
    refine onV_c fun v5 => ?_
    refine onV_c fun v6 => ?_
    rw [hSeq_n]
    rw [n40_25]
    rw [n40_26]
    rw [s40_7]
    refine onV_c fun v7 => ?_
    rw [hSeq_n]
    rw [n40_27]
    refine onBool_cc (by kernel_rfl) ?_ ?_
    · generalize e : (FG 32 d [(21, v7), (20, v6), (7, v6), (6, v5), (19, v6), (18, v5), (17, v4), (16, v3), (15, v1)]) = a
      rw [show a = (FF 32 (gf a)) from (FF_gf (by subst e; exact FG_len)).symm]
      exact (f40_r8_eq (d := gf a) call k ag_l5 sg_l5 h_l5).trans (by subst e; kernel_rfl)
    · rw [n40_28]
      rw [hBlock_n]
      rw [hLoop_n]
      generalize e : (FG 32 d [(21, v7), (20, v6), (7, v6), (6, v5), (19, v6), (18, v5), (17, v4), (16, v3), (15, v1)]) = a
      rw [show a = (FF 32 (gf a)) from (FF_gf (by subst e; exact FG_len)).symm]
      exact (f40_l5_at (d := gf a) h_l5).trans (by subst e; kernel_rfl)
  · rw [n40_29]
    rw [hSeq_e, hLoop_e, hBlock_hit]
    rw [hSeq_n]
    generalize e : (FG 32 d [(16, v3), (15, v1)]) = a
    rw [show a = (FF 32 (gf a)) from (FF_gf (by subst e; exact FG_len)).symm]
    exact (f40_r9_eq (d := gf a) call k).trans (by subst e; kernel_rfl)
noncomputable def f40_l5 (call : Handle) (k : Nat) : Nat → Value → Value → GH → M (Value × GH)
  | 0, _, _, _ => none
  | r + 1, x5, x14, H => f40_l5b call k (f40_l5 call k r) x5 x14 H
theorem f40_l5_eq (call : Handle) (k : Nat) : ∀ (r : Nat), f40_l5_P (gLoop (g40 call k [1,1,1,0,1,0,0]) (hBlock 0 (hSeq (g40 call k [1,1,1,1]) (hFin Try.prog Try.f40))) r) (f40_l5 call k r) := by
  intro r
  induction r with
  | zero => unfold f40_l5_P; intros; rfl
  | succ r ih => unfold f40_l5_P; intros; exact f40_l5b_eq call k _ _ ih
noncomputable def f40_sh (call : Handle) (k : Nat) (p0 p1 : Value) (H : GH) : M (Value × GH) :=
  onV (gLoad Try.prog 88 (.pointer (some ⟨H.n, 0, none⟩)) (GH.push H (.row (Value.cells p0).toList 88 false))) fun v1 =>
  onCall 0 call (.func (.func 34) #[] #[]) [v1] (GH.push H (.row (Value.cells p0).toList 88 false)) fun v2 H3 =>
  onV ((oBin Try.prog .neq 27 v2 (.int .i64 0)).filter closed) fun v4 =>
  onBool (asB v4)
  (some [((.slice none 0 0), H3)])
  (onV (gLoad Try.prog 88 (.pointer (some ⟨H.n, 0, none⟩)) H3) fun v5 =>
  onCall 0 call (.func (.func 102) #[] #[]) [v5, p1] H3 fun v6 H7 =>
  onVH (gRange Try.prog 186 v6 H7) fun v8 H9 =>
  (f40_l5 call k k (.slice none 0 0) v8 H9))
theorem f40_run (call : Handle) (k : Nat) (p0 p1 : Value) (H : GH) : g40 call k [] (FG 32 (fun _ => undef) [(1, p1), (0, p0)]) H (hFin Try.prog Try.f40) = f40_sh call k p0 p1 H := by
  unfold f40_sh
  rw [n40_0]
  rw [n40_1]
  rw [s40_0]
  rw [hSeq_n]
  rw [n40_2]
  rw [n40_3]
  rw [n40_4]
  rw [s40_1]
  refine onV_c fun v1 => ?_
  refine onCall_c fun v2 H3 => ?_
  refine onV_c fun v4 => ?_
  rw [hSeq_n]
  rw [n40_5]
  refine onBool_cc (by kernel_rfl) ?_ ?_
  · rw [n40_6]
    rw [n40_7]
    rw [s40_2]
    rw [hSeq_n]
    rw [n40_8]
    rw [hSeq_r]
    kernel_rfl
  · rw [n40_9]
    rw [hSeq_n]
    rw [n40_10]
    rw [n40_11]
    rw [s40_3]
    rw [hSeq_n]
    rw [n40_12]
    rw [n40_13]
    rw [n40_14]
    rw [s40_4]
    refine onV_c fun v5 => ?_
    refine onCall_c fun v6 H7 => ?_
    refine onVH_c fun v8 H9 => ?_
    rw [hSeq_n]
    rw [n40_15]
    rw [n40_16]
    generalize e : (FG 32 (fun _ => undef) [(14, v8), (13, v6), (12, p1), (11, v5), (5, (.slice none 0 0)), (10, v4), (9, v2), (8, v1), (4, (.slice none 0 0)), (2, (.pointer (some ⟨H.n, 0, none⟩))), (1, p1), (0, p0)]) = a
    rw [show a = (FF 32 (gf a)) from (FF_gf (by subst e; exact FG_len)).symm]
    exact (f40_l5_at (d := gf a) (f40_l5_eq call k k)).trans (by subst e; kernel_rfl)
theorem f40_eq (call : Handle) (k : Nat) (p0 p1 : Value) (H : GH) : gFunc Try.prog call k Try.f40 [p0, p1] H = f40_sh call k p0 p1 H :=
  Eq.trans (by kernel_rfl) (f40_run call k p0 p1 H)
end
noncomputable def g99 {β : Type} (call : Handle) (k : Nat) (p : List Nat) : GA → GH → Kont β → M β := gCode Try.prog call k (fAt Try.f99 p)
noncomputable def o99 {β : Type} (d : Nat) (call : Handle) (p : List Nat) (i : Nat) : GA → GH → (GA → GH → M β) → M β := gOps Try.prog d call (opsAt (fAt Try.f99 p)) ((opsAt (fAt Try.f99 p)).drop i)
noncomputable def t99 {β : Type} (d : Nat) (call : Handle) (p : List Nat) (i n : Nat) : GA → GH → (GA → GH → M β) → M β := gOps Try.prog d call (opsAt (fAt Try.f99 p)) (((opsAt (fAt Try.f99 p)).drop i).take n)
theorem o99_s {β : Type} {d : Nat} {call : Handle} {p : List Nat} {a : GA} {H : GH} {K : GA → GH → M β} (i n : Nat) : o99 d call p i a H K = t99 d call p i n a H fun a H => o99 d call p (i + n) a H K := gOps_split i n
section
variable {β : Type} {call : Handle} {k : Nat} {a : GA} {K : Kont β} {K' : GA → GH → M β}
variable {d : Nat → Value} {xg : Value}
variable {p0 : Value}
variable {H : GH}
theorem n99_0 : g99 call k [] a H K = g99 call k [0] a H (hSeq (g99 call k [1]) K) := at_seq (by kernel_rfl)
theorem n99_1 : g99 call k [0] a H K = o99 0 call [0] 0 a H (K .normal) := at_region (by kernel_rfl)
theorem n99_2 : g99 call k [1] a H K = g99 call k [1,0] a H (hSeq (g99 call k [1,1]) K) := at_seq (by kernel_rfl)
theorem n99_3 : g99 call k [1,0] a H K = o99 2 call [1,0] 0 a H (K .normal) := at_region (by kernel_rfl)
theorem n99_4 : g99 call k [1,1] a H K = K .ret a H := at_ret (by kernel_rfl)
theorem s99_0 : o99 0 call [0] 0 (FG 12 (fun _ => undef) [(0, p0)]) H K' =
  K' (FG 12 (fun _ => undef) [(2, (.pointer (some ⟨(GH.push H (.row (Value.cells p0).toList 88 false)).n, 0, none⟩))), (1, (.pointer (some ⟨H.n, 0, none⟩))), (0, p0)]) (GH.push (GH.push H (.row (Value.cells p0).toList 88 false)) (.row [(.slice none 0 0), (.slice none 0 0)] 88 false)) := by kernel_rfl
theorem s99_1 : o99 2 call [1,0] 0 (FG 12 (fun _ => undef) [(2, (.pointer (some ⟨(GH.push H (.row (Value.cells p0).toList 88 false)).n, 0, none⟩))), (1, (.pointer (some ⟨H.n, 0, none⟩))), (0, p0)]) (GH.push (GH.push H (.row (Value.cells p0).toList 88 false)) (.row [(.slice none 0 0), (.slice none 0 0)] 88 false)) K' =
  onV (gLoad Try.prog 85 (.pointer (some ⟨H.n, 0, none⟩)) (GH.push (GH.push H (.row (Value.cells p0).toList 88 false)) (.row [(.slice none 0 0), (.slice none 0 0)] 88 false))) fun v1 =>
  onCall 2 call (.func (.func 98) #[] #[]) [v1] (GH.push (GH.push H (.row (Value.cells p0).toList 88 false)) (.row [(.slice none 0 0), (.slice none 0 0)] 88 false)) fun v2 H3 =>
  onCall 2 call (.func (.func 113) #[] #[]) [v2] H3 fun v4 H5 =>
  onV (gLoad Try.prog 86 (.pointer (some ⟨H.n, 1, none⟩)) H5) fun v6 =>
  onCall 2 call (.func (.func 158) #[] #[]) [v6] H5 fun v7 H8 =>
  onCall 2 call (.func (.func 157) #[] #[]) [v7] H8 fun v9 H10 =>
  onV (oBuild Try.prog 88 [(0, v4), (1, v9)]) fun v11 =>
  onH (gStore Try.prog 88 (.pointer (some ⟨(GH.push H (.row (Value.cells p0).toList 88 false)).n, 0, none⟩)) v11 H10) fun H12 =>
  K' (FG 12 (fun _ => undef) [(11, v11), (10, v9), (9, v7), (8, v6), (7, (.pointer (some ⟨H.n, 1, none⟩))), (6, v4), (5, v2), (4, v1), (3, (.pointer (some ⟨H.n, 0, none⟩))), (2, (.pointer (some ⟨(GH.push H (.row (Value.cells p0).toList 88 false)).n, 0, none⟩))), (1, (.pointer (some ⟨H.n, 0, none⟩))), (0, p0)]) H12 := by kernel_rfl
noncomputable def f99_sh (call : Handle) (k : Nat) (p0 : Value) (H : GH) : M (Value × GH) :=
  onV (gLoad Try.prog 85 (.pointer (some ⟨H.n, 0, none⟩)) (GH.push (GH.push H (.row (Value.cells p0).toList 88 false)) (.row [(.slice none 0 0), (.slice none 0 0)] 88 false))) fun v1 =>
  onCall 2 call (.func (.func 98) #[] #[]) [v1] (GH.push (GH.push H (.row (Value.cells p0).toList 88 false)) (.row [(.slice none 0 0), (.slice none 0 0)] 88 false)) fun v2 H3 =>
  onCall 2 call (.func (.func 113) #[] #[]) [v2] H3 fun v4 H5 =>
  onV (gLoad Try.prog 86 (.pointer (some ⟨H.n, 1, none⟩)) H5) fun v6 =>
  onCall 2 call (.func (.func 158) #[] #[]) [v6] H5 fun v7 H8 =>
  onCall 2 call (.func (.func 157) #[] #[]) [v7] H8 fun v9 H10 =>
  onV (oBuild Try.prog 88 [(0, v4), (1, v9)]) fun v11 =>
  onH (gStore Try.prog 88 (.pointer (some ⟨(GH.push H (.row (Value.cells p0).toList 88 false)).n, 0, none⟩)) v11 H10) fun H12 =>
  onV (gResL Try.prog H12 [((.pointer (some ⟨(GH.push H (.row (Value.cells p0).toList 88 false)).n, 0, none⟩)), some 88)]) fun v => some [(v, H12)]
theorem f99_run (call : Handle) (k : Nat) (p0 : Value) (H : GH) : g99 call k [] (FG 12 (fun _ => undef) [(0, p0)]) H (hFin Try.prog Try.f99) = f99_sh call k p0 H := by
  unfold f99_sh
  rw [n99_0]
  rw [n99_1]
  rw [s99_0]
  rw [hSeq_n]
  rw [n99_2]
  rw [n99_3]
  rw [s99_1]
  refine onV_c fun v1 => ?_
  refine onCall_c fun v2 H3 => ?_
  refine onCall_c fun v4 H5 => ?_
  refine onV_c fun v6 => ?_
  refine onCall_c fun v7 H8 => ?_
  refine onCall_c fun v9 H10 => ?_
  refine onV_c fun v11 => ?_
  refine onH_c fun H12 => ?_
  rw [hSeq_n]
  rw [n99_4]
  kernel_rfl
theorem f99_eq (call : Handle) (k : Nat) (p0 : Value) (H : GH) : gFunc Try.prog call k Try.f99 [p0] H = f99_sh call k p0 H :=
  Eq.trans (by kernel_rfl) (f99_run call k p0 H)
end
end Go.Proofs.Ythicilkmjamefaa
