/- PRINTED by sh.py: shallow forms of functions of the program, each proved equal to what the ghost machine makes of its code. -/
import Derived.Test.YthicilkmjamefaaGkTop
import Derived.Test.YthicilkmjamefaaProg
namespace Go.Proofs.Ythicilkmjamefaa
open Go.Gh
set_option linter.unusedVariables false
set_option linter.unusedSimpArgs false
set_option maxRecDepth 100000
section
variable {β : Type} {call : Handle} {k : Nat} {a : GA} {K : Kont β} {K' : GA → GH → M β}
variable {d : Nat → Value} {xg : Value}
variable {p0 p1 : Value}
variable {H : GH}
theorem n46_0 : gCode Try.prog call k (fAt Try.f46 []) a H K = gCode Try.prog call k (fAt Try.f46 [0]) a H (hSeq (gCode Try.prog call k (fAt Try.f46 [1])) K) := at_seq (by kernel_rfl)
theorem n46_1 : gCode Try.prog call k (fAt Try.f46 [0]) a H K = gOps Try.prog 0 call (opsAt (fAt Try.f46 [0])) ((opsAt (fAt Try.f46 [0])).drop 0) a H (K .normal) := at_region (by kernel_rfl)
theorem n46_2 : gCode Try.prog call k (fAt Try.f46 [1]) a H K = gCode Try.prog call k (fAt Try.f46 [1,0]) a H (hSeq (gCode Try.prog call k (fAt Try.f46 [1,1])) K) := at_seq (by kernel_rfl)
theorem n46_3 : gCode Try.prog call k (fAt Try.f46 [1,0]) a H K = gOps Try.prog 0 call (opsAt (fAt Try.f46 [1,0])) ((opsAt (fAt Try.f46 [1,0])).drop 0) a H (K .normal) := at_region (by kernel_rfl)
theorem n46_4 : gCode Try.prog call k (fAt Try.f46 [1,1]) a H K = K .ret a H := at_ret (by kernel_rfl)
theorem s46_0 : gOps Try.prog 0 call (opsAt (fAt Try.f46 [0])) ((opsAt (fAt Try.f46 [0])).drop 0) ((FF 9 fun _ => undef) |>.set 0 p0 |>.set 1 p1) H K' =
  K' ((FF 9 fun _ => undef) |>.set 0 p0 |>.set 1 p1 |>.set 4 (.bool false)) H := by kernel_rfl
theorem s46_1 : gOps Try.prog 0 call (opsAt (fAt Try.f46 [1,0])) ((opsAt (fAt Try.f46 [1,0])).drop 0) ((FF 9 fun _ => undef) |>.set 0 p0 |>.set 1 p1 |>.set 4 (.bool false)) H K' =
  onCall 0 call (.func (.func 118) #[] #[]) [p0, p1] H fun v1 H2 =>
  onV ((oBin Try.prog .geq 3 v1 (.int .i64 0)).filter closed) fun v3 =>
  K' ((FF 9 fun _ => undef) |>.set 0 p0 |>.set 1 p1 |>.set 4 (.bool false) |>.set 5 p0 |>.set 6 p1 |>.set 7 v1 |>.set 8 v3 |>.set 4 v3) H2 := by kernel_rfl
noncomputable def f46_sh (call : Handle) (k : Nat) (p0 p1 : Value) (H : GH) : M (Value × GH) :=
  onCall 0 call (.func (.func 118) #[] #[]) [p0, p1] H fun v1 H2 =>
  onV ((oBin Try.prog .geq 3 v1 (.int .i64 0)).filter closed) fun v3 =>
  some [(v3, H2)]
theorem f46_run (call : Handle) (k : Nat) (p0 p1 : Value) (H : GH) : gCode Try.prog call k (fAt Try.f46 []) ((FF 9 fun _ => undef) |>.set 0 p0 |>.set 1 p1) H (hFin Try.prog Try.f46) = f46_sh call k p0 p1 H := by
  unfold f46_sh
  rw [n46_0]
  rw [n46_1]
  rw [s46_0]
  rw [hSeq_n]
  rw [n46_2]
  rw [n46_3]
  rw [s46_1]
  refine onCall_c fun v1 H2 => ?_
  refine onV_c fun v3 => ?_
  rw [hSeq_n]
  rw [n46_4]
  kernel_rfl
theorem f46_eq (call : Handle) (k : Nat) (p0 p1 : Value) (H : GH) : gFunc Try.prog call k Try.f46 [p0, p1] H = f46_sh call k p0 p1 H :=
  Eq.trans (by kernel_rfl) (f46_run call k p0 p1 H)
end
section
variable {β : Type} {call : Handle} {k : Nat} {a : GA} {K : Kont β} {K' : GA → GH → M β}
variable {d : Nat → Value} {xg : Value}
variable {p0 : Value}
variable {v1 v2 v3 v4 v5 : Value}
variable {H : GH}
theorem n73_0 : gCode Try.prog call k (fAt Try.f73 []) a H K = gCode Try.prog call k (fAt Try.f73 [0]) a H (hSeq (gCode Try.prog call k (fAt Try.f73 [1])) K) := at_seq (by kernel_rfl)
theorem n73_1 : gCode Try.prog call k (fAt Try.f73 [0]) a H K = gOps Try.prog 0 call (opsAt (fAt Try.f73 [0])) ((opsAt (fAt Try.f73 [0])).drop 0) a H (K .normal) := at_region (by kernel_rfl)
theorem n73_2 : gCode Try.prog call k (fAt Try.f73 [1]) a H K = gCode Try.prog call k (fAt Try.f73 [1,0]) a H (hSeq (gCode Try.prog call k (fAt Try.f73 [1,1])) K) := at_seq (by kernel_rfl)
theorem n73_3 : gCode Try.prog call k (fAt Try.f73 [1,0]) a H K = gOps Try.prog 0 call (opsAt (fAt Try.f73 [1,0])) ((opsAt (fAt Try.f73 [1,0])).drop 0) a H (K .normal) := at_region (by kernel_rfl)
theorem n73_4 : gCode Try.prog call k (fAt Try.f73 [1,1]) a H K = gCode Try.prog call k (fAt Try.f73 [1,1,0]) a H (hSeq (gCode Try.prog call k (fAt Try.f73 [1,1,1])) K) := at_seq (by kernel_rfl)
theorem n73_5 : gCode Try.prog call k (fAt Try.f73 [1,1,0]) a H K = gCode Try.prog call k (fAt Try.f73 [1,1,0,0]) a H (hSeq (gCode Try.prog call k (fAt Try.f73 [1,1,0,1])) K) := at_seq (by kernel_rfl)
theorem n73_6 : gCode Try.prog call k (fAt Try.f73 [1,1,0,0]) a H K = gOps Try.prog 0 call (opsAt (fAt Try.f73 [1,1,0,0])) ((opsAt (fAt Try.f73 [1,1,0,0])).drop 0) a H (K .normal) := at_region (by kernel_rfl)
theorem n73_7 : gCode Try.prog call k (fAt Try.f73 [1,1,0,1]) a H K = gCode Try.prog call k (fAt Try.f73 [1,1,0,1,0]) a H (hBlock 0 K) := at_block (by kernel_rfl)
theorem n73_8 : gCode Try.prog call k (fAt Try.f73 [1,1,0,1,0]) a H K = gLoop (gCode Try.prog call k (fAt Try.f73 [1,1,0,1,0,0])) K k a H := at_loop (by kernel_rfl)
theorem n73_9 : gCode Try.prog call k (fAt Try.f73 [1,1,0,1,0,0]) a H K = gCode Try.prog call k (fAt Try.f73 [1,1,0,1,0,0,0]) a H (hSeq (gCode Try.prog call k (fAt Try.f73 [1,1,0,1,0,0,1])) K) := at_seq (by kernel_rfl)
theorem n73_10 : gCode Try.prog call k (fAt Try.f73 [1,1,0,1,0,0,0]) a H K = gOps Try.prog 0 call (opsAt (fAt Try.f73 [1,1,0,1,0,0,0])) ((opsAt (fAt Try.f73 [1,1,0,1,0,0,0])).drop 0) a H (K .normal) := at_region (by kernel_rfl)
theorem n73_11 : gCode Try.prog call k (fAt Try.f73 [1,1,0,1,0,0,1]) a H K = gCode Try.prog call k (fAt Try.f73 [1,1,0,1,0,0,1,0]) a H (hSeq (gCode Try.prog call k (fAt Try.f73 [1,1,0,1,0,0,1,1])) K) := at_seq (by kernel_rfl)
theorem n73_12 : gCode Try.prog call k (fAt Try.f73 [1,1,0,1,0,0,1,0]) a H K = onBool (asB (GA.eval a (.tmp 9))) (gCode Try.prog call k (fAt Try.f73 [1,1,0,1,0,0,1,0,0]) a H K) (gCode Try.prog call k (fAt Try.f73 [1,1,0,1,0,0,1,0,1]) a H K) := at_cond (by kernel_rfl)
theorem n73_13 : gCode Try.prog call k (fAt Try.f73 [1,1,0,1,0,0,1,0,0]) a H K = K .normal a H := at_skip (by kernel_rfl)
theorem n73_14 : gCode Try.prog call k (fAt Try.f73 [1,1,0,1,0,0,1,1]) a H K = gCode Try.prog call k (fAt Try.f73 [1,1,0,1,0,0,1,1,0]) a H (hSeq (gCode Try.prog call k (fAt Try.f73 [1,1,0,1,0,0,1,1,1])) K) := at_seq (by kernel_rfl)
theorem n73_15 : gCode Try.prog call k (fAt Try.f73 [1,1,0,1,0,0,1,1,0]) a H K = gCode Try.prog call k (fAt Try.f73 [1,1,0,1,0,0,1,1,0,0]) a H (hBlock 1 K) := at_block (by kernel_rfl)
theorem n73_16 : gCode Try.prog call k (fAt Try.f73 [1,1,0,1,0,0,1,1,0,0]) a H K = gCode Try.prog call k (fAt Try.f73 [1,1,0,1,0,0,1,1,0,0,0]) a H (hSeq (gCode Try.prog call k (fAt Try.f73 [1,1,0,1,0,0,1,1,0,0,1])) K) := at_seq (by kernel_rfl)
theorem n73_17 : gCode Try.prog call k (fAt Try.f73 [1,1,0,1,0,0,1,1,0,0,0]) a H K = gOps Try.prog 0 call (opsAt (fAt Try.f73 [1,1,0,1,0,0,1,1,0,0,0])) ((opsAt (fAt Try.f73 [1,1,0,1,0,0,1,1,0,0,0])).drop 0) a H (K .normal) := at_region (by kernel_rfl)
theorem n73_18 : gCode Try.prog call k (fAt Try.f73 [1,1,0,1,0,0,1,1,0,0,1]) a H K = gOps Try.prog 0 call (opsAt (fAt Try.f73 [1,1,0,1,0,0,1,1,0,0,1])) ((opsAt (fAt Try.f73 [1,1,0,1,0,0,1,1,0,0,1])).drop 0) a H (K .normal) := at_region (by kernel_rfl)
theorem n73_19 : gCode Try.prog call k (fAt Try.f73 [1,1,0,1,0,0,1,1,1]) a H K = gOps Try.prog 0 call (opsAt (fAt Try.f73 [1,1,0,1,0,0,1,1,1])) ((opsAt (fAt Try.f73 [1,1,0,1,0,0,1,1,1])).drop 0) a H (K .normal) := at_region (by kernel_rfl)
theorem n73_20 : gCode Try.prog call k (fAt Try.f73 [1,1,0,1,0,0,1,0,1]) a H K = K (.exit 0) a H := at_exit (by kernel_rfl)
theorem n73_21 : gCode Try.prog call k (fAt Try.f73 [1,1,1]) a H K = gCode Try.prog call k (fAt Try.f73 [1,1,1,0]) a H (hSeq (gCode Try.prog call k (fAt Try.f73 [1,1,1,1])) K) := at_seq (by kernel_rfl)
theorem n73_22 : gCode Try.prog call k (fAt Try.f73 [1,1,1,0]) a H K = gOps Try.prog 0 call (opsAt (fAt Try.f73 [1,1,1,0])) ((opsAt (fAt Try.f73 [1,1,1,0])).drop 0) a H (K .normal) := at_region (by kernel_rfl)
theorem n73_23 : gCode Try.prog call k (fAt Try.f73 [1,1,1,1]) a H K = K .ret a H := at_ret (by kernel_rfl)
theorem s73_0 : gOps Try.prog 0 call (opsAt (fAt Try.f73 [0])) ((opsAt (fAt Try.f73 [0])).drop 0) ((FF 18 fun _ => undef) |>.set 0 p0) H K' =
  K' ((FF 18 fun _ => undef) |>.set 0 p0 |>.set 2 (.int .i64 0)) H := by kernel_rfl
theorem s73_1 : gOps Try.prog 0 call (opsAt (fAt Try.f73 [1,0])) ((opsAt (fAt Try.f73 [1,0])).drop 0) ((FF 18 fun _ => undef) |>.set 0 p0 |>.set 2 (.int .i64 0)) H K' =
  K' ((FF 18 fun _ => undef) |>.set 0 p0 |>.set 2 (.int .i64 0) |>.set 3 (.int .i64 0)) H := by kernel_rfl
theorem s73_2 : gOps Try.prog 0 call (opsAt (fAt Try.f73 [1,1,0,0])) ((opsAt (fAt Try.f73 [1,1,0,0])).drop 0) ((FF 18 fun _ => undef) |>.set 0 p0 |>.set 2 (.int .i64 0) |>.set 3 (.int .i64 0)) H K' =
  onV (oLen Try.prog 58 p0) fun v1 =>
  K' ((FF 18 fun _ => undef) |>.set 0 p0 |>.set 2 (.int .i64 0) |>.set 3 (.int .i64 0) |>.set 6 p0 |>.set 7 v1 |>.set 8 (.int .i64 0)) H := by kernel_rfl
theorem s73_3 : gOps Try.prog 0 call (opsAt (fAt Try.f73 [1,1,0,1,0,0,0])) ((opsAt (fAt Try.f73 [1,1,0,1,0,0,0])).drop 0) (FF 18 d) H K' =
  onV ((oBin Try.prog .lss 3 (d 8) (d 7)).filter closed) fun v1 =>
  K' ((FF 18 d) |>.set 9 v1) H := by kernel_rfl
theorem s73_4 : gOps Try.prog 0 call (opsAt (fAt Try.f73 [1,1,0,1,0,0,1,1,0,0,0])) ((opsAt (fAt Try.f73 [1,1,0,1,0,0,1,1,0,0,0])).drop 0) ((FF 18 d) |>.set 9 v1) H K' =
  onV (oIndexAddr Try.prog 58 (d 6) (d 8)) fun v2 =>
  onV (gLoad Try.prog 59 v2 H) fun v3 =>
  K' ((FF 18 d) |>.set 9 v1 |>.set 10 v2 |>.set 11 v3 |>.set 5 v3) H := by kernel_rfl
theorem s73_5 : gOps Try.prog 0 call (opsAt (fAt Try.f73 [1,1,0,1,0,0,1,1,0,0,1])) ((opsAt (fAt Try.f73 [1,1,0,1,0,0,1,1,0,0,1])).drop 0) ((FF 18 d) |>.set 9 v1 |>.set 10 v2 |>.set 11 v3 |>.set 5 v3) H K' =
  onV (oLen Try.prog 59 v3) fun v4 =>
  onV ((oBin Try.prog .add 3 (d 3) v4).filter closed) fun v5 =>
  K' ((FF 18 d) |>.set 9 v1 |>.set 10 v2 |>.set 11 v3 |>.set 5 v3 |>.set 12 (d 3) |>.set 13 v3 |>.set 14 v4 |>.set 15 v5 |>.set 3 v5) H := by kernel_rfl
theorem s73_6 : gOps Try.prog 0 call (opsAt (fAt Try.f73 [1,1,0,1,0,0,1,1,1])) ((opsAt (fAt Try.f73 [1,1,0,1,0,0,1,1,1])).drop 0) ((FF 18 d) |>.set 9 v1 |>.set 10 v2 |>.set 11 v3 |>.set 5 v3 |>.set 12 (d 3) |>.set 13 v3 |>.set 14 v4 |>.set 15 v5 |>.set 3 v5) H K' =
  onV ((oBin Try.prog .add 3 (d 8) (.int .i64 1)).filter closed) fun v6 =>
  K' ((FF 18 d) |>.set 9 v1 |>.set 10 v2 |>.set 11 v3 |>.set 5 v3 |>.set 12 (d 3) |>.set 13 v3 |>.set 14 v4 |>.set 15 v5 |>.set 3 v5 |>.set 16 v6 |>.set 8 v6) H := by kernel_rfl
theorem s73_7 : gOps Try.prog 0 call (opsAt (fAt Try.f73 [1,1,1,0])) ((opsAt (fAt Try.f73 [1,1,1,0])).drop 0) ((FF 18 d) |>.set 9 v1) H K' =
  K' ((FF 18 d) |>.set 9 v1 |>.set 17 (d 3) |>.set 2 (d 3)) H := by kernel_rfl
def f73_l3_P (ag : GA → GH → M (Value × GH)) (sg : Value → Value → Value → Value → GH → M (Value × GH)) : Prop := ∀ (d : Nat → Value) (H : GH), ag (FF 18 d) H = sg (d 3) (d 6) (d 7) (d 8) H
theorem f73_l3_at {ag : GA → GH → M (Value × GH)} {sg : Value → Value → Value → Value → GH → M (Value × GH)} (h : f73_l3_P ag sg) : ag (FF 18 d) H = sg (d 3) (d 6) (d 7) (d 8) H := h d H
noncomputable def f73_l3b (call : Handle) (k : Nat) (sg_l3 : Value → Value → Value → Value → GH → M (Value × GH)) (x3 x6 x7 x8 : Value) (H : GH) : M (Value × GH) :=
  onV ((oBin Try.prog .lss 3 x8 x7).filter closed) fun v1 =>
  onBool (asB v1)
  (onV (oIndexAddr Try.prog 58 x6 x8) fun v2 =>
  onV (gLoad Try.prog 59 v2 H) fun v3 =>
  onV (oLen Try.prog 59 v3) fun v4 =>
  onV ((oBin Try.prog .add 3 x3 v4).filter closed) fun v5 =>
  onV ((oBin Try.prog .add 3 x8 (.int .i64 1)).filter closed) fun v6 =>
  (sg_l3 v5 x6 x7 v6 H))
  (some [(x3, H)])
theorem f73_l3b_eq (call : Handle) (k : Nat) (ag_l3 : GA → GH → M (Value × GH)) (sg_l3 : Value → Value → Value → Value → GH → M (Value × GH)) (h_l3 : f73_l3_P ag_l3 sg_l3) : gCode Try.prog call k (fAt Try.f73 [1,1,0,1,0,0]) (FF 18 d) H (hLoop ag_l3 (hBlock 0 (hSeq (gCode Try.prog call k (fAt Try.f73 [1,1,1])) (hFin Try.prog Try.f73)))) = f73_l3b call k sg_l3 (d 3) (d 6) (d 7) (d 8) H := by
  unfold f73_l3b
  rw [n73_9]
  rw [n73_10]
  rw [s73_3]
  refine onV_c fun v1 => ?_
  rw [hSeq_n]
  rw [n73_11]
  rw [n73_12]
  refine onBool_cc (by kernel_rfl) ?_ ?_
  · rw [n73_13]
    rw [hSeq_n]
    rw [n73_14]
    rw [n73_15]
    rw [n73_16]
    rw [n73_17]
    rw [s73_4]
    refine onV_c fun v2 => ?_
    refine onV_c fun v3 => ?_
    rw [hSeq_n]
    rw [n73_18]
    rw [s73_5]
    refine onV_c fun v4 => ?_
    refine onV_c fun v5 => ?_
    rw [hBlock_n]
    rw [hSeq_n]
    rw [n73_19]
    rw [s73_6]
    refine onV_c fun v6 => ?_
    rw [hLoop_n]
    rw [show ((FF 18 d) |>.set 9 v1 |>.set 10 v2 |>.set 11 v3 |>.set 5 v3 |>.set 12 (d 3) |>.set 13 v3 |>.set 14 v4 |>.set 15 v5 |>.set 3 v5 |>.set 16 v6 |>.set 8 v6) = (FF 18 (gf ((FF 18 d) |>.set 9 v1 |>.set 10 v2 |>.set 11 v3 |>.set 5 v3 |>.set 12 (d 3) |>.set 13 v3 |>.set 14 v4 |>.set 15 v5 |>.set 3 v5 |>.set 16 v6 |>.set 8 v6))) from by kernel_rfl]
    exact (f73_l3_at (d := gf ((FF 18 d) |>.set 9 v1 |>.set 10 v2 |>.set 11 v3 |>.set 5 v3 |>.set 12 (d 3) |>.set 13 v3 |>.set 14 v4 |>.set 15 v5 |>.set 3 v5 |>.set 16 v6 |>.set 8 v6)) h_l3).trans (by kernel_rfl)
  · rw [n73_20]
    rw [hSeq_e, hLoop_e, hBlock_hit]
    rw [hSeq_n]
    rw [n73_21]
    rw [n73_22]
    rw [s73_7]
    rw [hSeq_n]
    rw [n73_23]
    kernel_rfl
noncomputable def f73_l3 (call : Handle) (k : Nat) : Nat → Value → Value → Value → Value → GH → M (Value × GH)
  | 0, _, _, _, _, _ => none
  | r + 1, x3, x6, x7, x8, H => f73_l3b call k (f73_l3 call k r) x3 x6 x7 x8 H
theorem f73_l3_eq (call : Handle) (k : Nat) : ∀ (r : Nat), f73_l3_P (gLoop (gCode Try.prog call k (fAt Try.f73 [1,1,0,1,0,0])) (hBlock 0 (hSeq (gCode Try.prog call k (fAt Try.f73 [1,1,1])) (hFin Try.prog Try.f73))) r) (f73_l3 call k r) := by
  intro r
  induction r with
  | zero => unfold f73_l3_P; intros; rfl
  | succ r ih => unfold f73_l3_P; intros; exact f73_l3b_eq call k _ _ ih
noncomputable def f73_sh (call : Handle) (k : Nat) (p0 : Value) (H : GH) : M (Value × GH) :=
  onV (oLen Try.prog 58 p0) fun v1 =>
  (f73_l3 call k k (.int .i64 0) p0 v1 (.int .i64 0) H)
theorem f73_run (call : Handle) (k : Nat) (p0 : Value) (H : GH) : gCode Try.prog call k (fAt Try.f73 []) ((FF 18 fun _ => undef) |>.set 0 p0) H (hFin Try.prog Try.f73) = f73_sh call k p0 H := by
  unfold f73_sh
  rw [n73_0]
  rw [n73_1]
  rw [s73_0]
  rw [hSeq_n]
  rw [n73_2]
  rw [n73_3]
  rw [s73_1]
  rw [hSeq_n]
  rw [n73_4]
  rw [n73_5]
  rw [n73_6]
  rw [s73_2]
  refine onV_c fun v1 => ?_
  rw [hSeq_n]
  rw [n73_7]
  rw [n73_8]
  rw [show ((FF 18 fun _ => undef) |>.set 0 p0 |>.set 2 (.int .i64 0) |>.set 3 (.int .i64 0) |>.set 6 p0 |>.set 7 v1 |>.set 8 (.int .i64 0)) = (FF 18 (gf ((FF 18 fun _ => undef) |>.set 0 p0 |>.set 2 (.int .i64 0) |>.set 3 (.int .i64 0) |>.set 6 p0 |>.set 7 v1 |>.set 8 (.int .i64 0)))) from by kernel_rfl]
  exact (f73_l3_at (d := gf ((FF 18 fun _ => undef) |>.set 0 p0 |>.set 2 (.int .i64 0) |>.set 3 (.int .i64 0) |>.set 6 p0 |>.set 7 v1 |>.set 8 (.int .i64 0))) (f73_l3_eq call k k)).trans (by kernel_rfl)
theorem f73_eq (call : Handle) (k : Nat) (p0 : Value) (H : GH) : gFunc Try.prog call k Try.f73 [p0] H = f73_sh call k p0 H :=
  Eq.trans (by kernel_rfl) (f73_run call k p0 H)
end
section
variable {β : Type} {call : Handle} {k : Nat} {a : GA} {K : Kont β} {K' : GA → GH → M β}
variable {d : Nat → Value} {xg : Value}
variable {p0 p1 : Value}
variable {H : GH}
theorem n74_0 : gCode Try.prog call k (fAt Try.f74 []) a H K = gCode Try.prog call k (fAt Try.f74 [0]) a H (hSeq (gCode Try.prog call k (fAt Try.f74 [1])) K) := at_seq (by kernel_rfl)
theorem n74_1 : gCode Try.prog call k (fAt Try.f74 [0]) a H K = gOps Try.prog 0 call (opsAt (fAt Try.f74 [0])) ((opsAt (fAt Try.f74 [0])).drop 0) a H (K .normal) := at_region (by kernel_rfl)
theorem n74_2 : gCode Try.prog call k (fAt Try.f74 [1]) a H K = gCode Try.prog call k (fAt Try.f74 [1,0]) a H (hSeq (gCode Try.prog call k (fAt Try.f74 [1,1])) K) := at_seq (by kernel_rfl)
theorem n74_3 : gCode Try.prog call k (fAt Try.f74 [1,0]) a H K = gOps Try.prog 1 call (opsAt (fAt Try.f74 [1,0])) ((opsAt (fAt Try.f74 [1,0])).drop 0) a H (K .normal) := at_region (by kernel_rfl)
theorem n74_4 : gCode Try.prog call k (fAt Try.f74 [1,1]) a H K = K .ret a H := at_ret (by kernel_rfl)
theorem s74_0 : gOps Try.prog 0 call (opsAt (fAt Try.f74 [0])) ((opsAt (fAt Try.f74 [0])).drop 0) ((FF 33 fun _ => undef) |>.set 0 p0 |>.set 1 p1) H K' =
  K' ((FF 33 fun _ => undef) |>.set 0 p0 |>.set 1 p1 |>.set 3 (.pointer (some ⟨H.n, 0, none⟩)) |>.set 4 (.bool false)) (GH.push H (.row (Value.cells p1).toList 29 false)) := by kernel_rfl
theorem s74_1 : gOps Try.prog 1 call (opsAt (fAt Try.f74 [1,0])) (((opsAt (fAt Try.f74 [1,0])).drop 0).take 4) (FF 33 d) H K' =
  onV (oFieldAddr Try.prog 29 (d 3) 0) fun v1 =>
  onV (gLoad Try.prog 5 v1 H) fun v2 =>
  onV ((oBin Try.prog .geq 5 v2 (.int .u8 1)).filter closed) fun v3 =>
  onGrd true v3 (K' ((FF 33 d) |>.set 5 v1 |>.set 6 v2 |>.set 7 v3 |>.set 8 v3) H) := by kernel_rfl
theorem s74_2 : gOps Try.prog 1 call (opsAt (fAt Try.f74 [1,0])) (((opsAt (fAt Try.f74 [1,0])).drop 4).take 8) ((FF 33 d) |>.set 8 (.bool true)) H K' =
  onV (oFieldAddr Try.prog 29 (d 3) 0) fun v1 =>
  onV (gLoad Try.prog 5 v1 H) fun v2 =>
  onV ((oConvert Try.prog 5 3 v2).filter closed) fun v3 =>
  onV (oLen Try.prog 58 (d 0)) fun v4 =>
  onV ((oBin Try.prog .leq 3 v3 v4).filter closed) fun v5 =>
  onGrd true v5 (K' ((FF 33 d) |>.set 8 (.bool true) |>.set 9 v1 |>.set 10 v2 |>.set 11 v3 |>.set 12 (d 0) |>.set 13 v4 |>.set 14 v5 |>.set 15 v5 |>.set 16 v5) H) := by kernel_rfl
theorem s74_3 : gOps Try.prog 1 call (opsAt (fAt Try.f74 [1,0])) ((opsAt (fAt Try.f74 [1,0])).drop 4) ((FF 33 d) |>.set 8 (.bool false)) H K' =
  K' ((FF 33 d) |>.set 8 (.bool false) |>.set 9 undef |>.set 10 undef |>.set 11 undef |>.set 12 undef |>.set 13 undef |>.set 14 undef |>.set 15 (.bool false) |>.set 16 (.bool false) |>.set 17 undef |>.set 18 undef |>.set 19 undef |>.set 20 (.bool false) |>.set 21 (.bool false) |>.set 22 undef |>.set 23 undef |>.set 24 undef |>.set 25 undef |>.set 26 undef |>.set 27 undef |>.set 28 undef |>.set 29 undef |>.set 30 undef |>.set 31 undef |>.set 32 (.bool false) |>.set 4 (.bool false)) H := by kernel_rfl
theorem s74_4 : gOps Try.prog 1 call (opsAt (fAt Try.f74 [1,0])) (((opsAt (fAt Try.f74 [1,0])).drop 12).take 5) ((FF 33 d) |>.set 16 (.bool true)) H K' =
  onV (oFieldAddr Try.prog 29 (d 3) 1) fun v1 =>
  onV (gLoad Try.prog 3 v1 H) fun v2 =>
  onV ((oBin Try.prog .geq 3 v2 (.int .i64 0)).filter closed) fun v3 =>
  onGrd true v3 (K' ((FF 33 d) |>.set 16 (.bool true) |>.set 17 v1 |>.set 18 v2 |>.set 19 v3 |>.set 20 v3 |>.set 21 v3) H) := by kernel_rfl
theorem s74_5 : gOps Try.prog 1 call (opsAt (fAt Try.f74 [1,0])) ((opsAt (fAt Try.f74 [1,0])).drop 12) ((FF 33 d) |>.set 16 (.bool false)) H K' =
  K' ((FF 33 d) |>.set 16 (.bool false) |>.set 17 undef |>.set 18 undef |>.set 19 undef |>.set 20 (.bool false) |>.set 21 (.bool false) |>.set 22 undef |>.set 23 undef |>.set 24 undef |>.set 25 undef |>.set 26 undef |>.set 27 undef |>.set 28 undef |>.set 29 undef |>.set 30 undef |>.set 31 undef |>.set 32 (.bool false) |>.set 4 (.bool false)) H := by kernel_rfl
theorem s74_6 : gOps Try.prog 1 call (opsAt (fAt Try.f74 [1,0])) ((opsAt (fAt Try.f74 [1,0])).drop 17) ((FF 33 d) |>.set 21 (.bool true)) H K' =
  onV (oFieldAddr Try.prog 29 (d 3) 1) fun v1 =>
  onV (gLoad Try.prog 3 v1 H) fun v2 =>
  onV (oFieldAddr Try.prog 29 (d 3) 0) fun v3 =>
  onV (gLoad Try.prog 5 v3 H) fun v4 =>
  onV ((oBin Try.prog .sub 5 v4 (.int .u8 1)).filter closed) fun v5 =>
  onV (oIndexAddr Try.prog 58 (d 0) v5) fun v6 =>
  onV (gLoad Try.prog 59 v6 H) fun v7 =>
  onV (oLen Try.prog 59 v7) fun v8 =>
  onV ((oBin Try.prog .lss 3 v2 v8).filter closed) fun v9 =>
  K' ((FF 33 d) |>.set 21 (.bool true) |>.set 22 v1 |>.set 23 v2 |>.set 24 (d 0) |>.set 25 v3 |>.set 26 v4 |>.set 27 v5 |>.set 28 v6 |>.set 29 v7 |>.set 30 v8 |>.set 31 v9 |>.set 32 v9 |>.set 4 v9) H := by kernel_rfl
theorem s74_7 : gOps Try.prog 1 call (opsAt (fAt Try.f74 [1,0])) ((opsAt (fAt Try.f74 [1,0])).drop 17) ((FF 33 d) |>.set 21 (.bool false)) H K' =
  K' ((FF 33 d) |>.set 21 (.bool false) |>.set 22 undef |>.set 23 undef |>.set 24 undef |>.set 25 undef |>.set 26 undef |>.set 27 undef |>.set 28 undef |>.set 29 undef |>.set 30 undef |>.set 31 undef |>.set 32 (.bool false) |>.set 4 (.bool false)) H := by kernel_rfl
noncomputable def f74_g1_17 (call : Handle) (k : Nat) (x21 : Value) (x0 x3 : Value) (H : GH) : M (Value × GH) :=
 onBool (asB x21)
  (onV (oFieldAddr Try.prog 29 x3 1) fun v1 =>
  onV (gLoad Try.prog 3 v1 H) fun v2 =>
  onV (oFieldAddr Try.prog 29 x3 0) fun v3 =>
  onV (gLoad Try.prog 5 v3 H) fun v4 =>
  onV ((oBin Try.prog .sub 5 v4 (.int .u8 1)).filter closed) fun v5 =>
  onV (oIndexAddr Try.prog 58 x0 v5) fun v6 =>
  onV (gLoad Try.prog 59 v6 H) fun v7 =>
  onV (oLen Try.prog 59 v7) fun v8 =>
  onV ((oBin Try.prog .lss 3 v2 v8).filter closed) fun v9 =>
  some [(v9, H)])
  (some [((.bool false), H)])
theorem f74_g1_17_true (call : Handle) (k : Nat) : gOps Try.prog 1 call (opsAt (fAt Try.f74 [1,0])) ((opsAt (fAt Try.f74 [1,0])).drop 17) ((FF 33 d) |>.set 21 (.bool true)) H ((hSeq (gCode Try.prog call k (fAt Try.f74 [1,1])) (hFin Try.prog Try.f74)) .normal) =
  onV (oFieldAddr Try.prog 29 (d 3) 1) fun v1 =>
  onV (gLoad Try.prog 3 v1 H) fun v2 =>
  onV (oFieldAddr Try.prog 29 (d 3) 0) fun v3 =>
  onV (gLoad Try.prog 5 v3 H) fun v4 =>
  onV ((oBin Try.prog .sub 5 v4 (.int .u8 1)).filter closed) fun v5 =>
  onV (oIndexAddr Try.prog 58 (d 0) v5) fun v6 =>
  onV (gLoad Try.prog 59 v6 H) fun v7 =>
  onV (oLen Try.prog 59 v7) fun v8 =>
  onV ((oBin Try.prog .lss 3 v2 v8).filter closed) fun v9 =>
  some [(v9, H)] := by
  rw [s74_6]
  refine onV_c fun v1 => ?_
  refine onV_c fun v2 => ?_
  refine onV_c fun v3 => ?_
  refine onV_c fun v4 => ?_
  refine onV_c fun v5 => ?_
  refine onV_c fun v6 => ?_
  refine onV_c fun v7 => ?_
  refine onV_c fun v8 => ?_
  refine onV_c fun v9 => ?_
  rw [hSeq_n]
  rw [n74_4]
  kernel_rfl
theorem f74_g1_17_false (call : Handle) (k : Nat) : gOps Try.prog 1 call (opsAt (fAt Try.f74 [1,0])) ((opsAt (fAt Try.f74 [1,0])).drop 17) ((FF 33 d) |>.set 21 (.bool false)) H ((hSeq (gCode Try.prog call k (fAt Try.f74 [1,1])) (hFin Try.prog Try.f74)) .normal) =
  some [((.bool false), H)] := by
  rw [s74_7]
  rw [hSeq_n]
  rw [n74_4]
  kernel_rfl
theorem f74_g1_17_eq (call : Handle) (k : Nat) : onGrd true xg (gOps Try.prog 1 call (opsAt (fAt Try.f74 [1,0])) ((opsAt (fAt Try.f74 [1,0])).drop 17) ((FF 33 d) |>.set 21 xg) H ((hSeq (gCode Try.prog call k (fAt Try.f74 [1,1])) (hFin Try.prog Try.f74)) .normal)) =
  f74_g1_17 call k xg (d 0) (d 3) H := by
  cases xg with
  | bool b => cases b with
    | true => exact onGrd_b.trans (f74_g1_17_true call k)
    | false => exact onGrd_b.trans (f74_g1_17_false call k)
  | _ => kernel_rfl
noncomputable def f74_g1_12 (call : Handle) (k : Nat) (x16 : Value) (x0 x3 : Value) (H : GH) : M (Value × GH) :=
 onBool (asB x16)
  (onV (oFieldAddr Try.prog 29 x3 1) fun v1 =>
  onV (gLoad Try.prog 3 v1 H) fun v2 =>
  onV ((oBin Try.prog .geq 3 v2 (.int .i64 0)).filter closed) fun v3 =>
  (f74_g1_17 call k v3 x0 x3 H))
  (some [((.bool false), H)])
theorem f74_g1_12_true (call : Handle) (k : Nat) : gOps Try.prog 1 call (opsAt (fAt Try.f74 [1,0])) ((opsAt (fAt Try.f74 [1,0])).drop 12) ((FF 33 d) |>.set 16 (.bool true)) H ((hSeq (gCode Try.prog call k (fAt Try.f74 [1,1])) (hFin Try.prog Try.f74)) .normal) =
  onV (oFieldAddr Try.prog 29 (d 3) 1) fun v1 =>
  onV (gLoad Try.prog 3 v1 H) fun v2 =>
  onV ((oBin Try.prog .geq 3 v2 (.int .i64 0)).filter closed) fun v3 =>
  (f74_g1_17 call k v3 (d 0) (d 3) H) := by
  rw [gOps_split 12 5, s74_4]
  refine onV_c fun v1 => ?_
  refine onV_c fun v2 => ?_
  refine onV_c fun v3 => ?_
  rw [show ((FF 33 d) |>.set 16 (.bool true) |>.set 17 v1 |>.set 18 v2 |>.set 19 v3 |>.set 20 v3 |>.set 21 v3) = ((FF 33 (gf ((FF 33 d) |>.set 16 (.bool true) |>.set 17 v1 |>.set 18 v2 |>.set 19 v3 |>.set 20 v3 |>.set 21 v3))) |>.set 21 v3) from by kernel_rfl]
  exact (f74_g1_17_eq (d := gf ((FF 33 d) |>.set 16 (.bool true) |>.set 17 v1 |>.set 18 v2 |>.set 19 v3 |>.set 20 v3 |>.set 21 v3)) call k).trans (by kernel_rfl)
theorem f74_g1_12_false (call : Handle) (k : Nat) : gOps Try.prog 1 call (opsAt (fAt Try.f74 [1,0])) ((opsAt (fAt Try.f74 [1,0])).drop 12) ((FF 33 d) |>.set 16 (.bool false)) H ((hSeq (gCode Try.prog call k (fAt Try.f74 [1,1])) (hFin Try.prog Try.f74)) .normal) =
  some [((.bool false), H)] := by
  rw [s74_5]
  rw [hSeq_n]
  rw [n74_4]
  kernel_rfl
theorem f74_g1_12_eq (call : Handle) (k : Nat) : onGrd true xg (gOps Try.prog 1 call (opsAt (fAt Try.f74 [1,0])) ((opsAt (fAt Try.f74 [1,0])).drop 12) ((FF 33 d) |>.set 16 xg) H ((hSeq (gCode Try.prog call k (fAt Try.f74 [1,1])) (hFin Try.prog Try.f74)) .normal)) =
  f74_g1_12 call k xg (d 0) (d 3) H := by
  cases xg with
  | bool b => cases b with
    | true => exact onGrd_b.trans (f74_g1_12_true call k)
    | false => exact onGrd_b.trans (f74_g1_12_false call k)
  | _ => kernel_rfl
noncomputable def f74_g1_4 (call : Handle) (k : Nat) (x8 : Value) (x0 x3 : Value) (H : GH) : M (Value × GH) :=
 onBool (asB x8)
  (onV (oFieldAddr Try.prog 29 x3 0) fun v1 =>
  onV (gLoad Try.prog 5 v1 H) fun v2 =>
  onV ((oConvert Try.prog 5 3 v2).filter closed) fun v3 =>
  onV (oLen Try.prog 58 x0) fun v4 =>
  onV ((oBin Try.prog .leq 3 v3 v4).filter closed) fun v5 =>
  (f74_g1_12 call k v5 x0 x3 H))
  (some [((.bool false), H)])
theorem f74_g1_4_true (call : Handle) (k : Nat) : gOps Try.prog 1 call (opsAt (fAt Try.f74 [1,0])) ((opsAt (fAt Try.f74 [1,0])).drop 4) ((FF 33 d) |>.set 8 (.bool true)) H ((hSeq (gCode Try.prog call k (fAt Try.f74 [1,1])) (hFin Try.prog Try.f74)) .normal) =
  onV (oFieldAddr Try.prog 29 (d 3) 0) fun v1 =>
  onV (gLoad Try.prog 5 v1 H) fun v2 =>
  onV ((oConvert Try.prog 5 3 v2).filter closed) fun v3 =>
  onV (oLen Try.prog 58 (d 0)) fun v4 =>
  onV ((oBin Try.prog .leq 3 v3 v4).filter closed) fun v5 =>
  (f74_g1_12 call k v5 (d 0) (d 3) H) := by
  rw [gOps_split 4 8, s74_2]
  refine onV_c fun v1 => ?_
  refine onV_c fun v2 => ?_
  refine onV_c fun v3 => ?_
  refine onV_c fun v4 => ?_
  refine onV_c fun v5 => ?_
  rw [show ((FF 33 d) |>.set 8 (.bool true) |>.set 9 v1 |>.set 10 v2 |>.set 11 v3 |>.set 12 (d 0) |>.set 13 v4 |>.set 14 v5 |>.set 15 v5 |>.set 16 v5) = ((FF 33 (gf ((FF 33 d) |>.set 8 (.bool true) |>.set 9 v1 |>.set 10 v2 |>.set 11 v3 |>.set 12 (d 0) |>.set 13 v4 |>.set 14 v5 |>.set 15 v5 |>.set 16 v5))) |>.set 16 v5) from by kernel_rfl]
  exact (f74_g1_12_eq (d := gf ((FF 33 d) |>.set 8 (.bool true) |>.set 9 v1 |>.set 10 v2 |>.set 11 v3 |>.set 12 (d 0) |>.set 13 v4 |>.set 14 v5 |>.set 15 v5 |>.set 16 v5)) call k).trans (by kernel_rfl)
theorem f74_g1_4_false (call : Handle) (k : Nat) : gOps Try.prog 1 call (opsAt (fAt Try.f74 [1,0])) ((opsAt (fAt Try.f74 [1,0])).drop 4) ((FF 33 d) |>.set 8 (.bool false)) H ((hSeq (gCode Try.prog call k (fAt Try.f74 [1,1])) (hFin Try.prog Try.f74)) .normal) =
  some [((.bool false), H)] := by
  rw [s74_3]
  rw [hSeq_n]
  rw [n74_4]
  kernel_rfl
theorem f74_g1_4_eq (call : Handle) (k : Nat) : onGrd true xg (gOps Try.prog 1 call (opsAt (fAt Try.f74 [1,0])) ((opsAt (fAt Try.f74 [1,0])).drop 4) ((FF 33 d) |>.set 8 xg) H ((hSeq (gCode Try.prog call k (fAt Try.f74 [1,1])) (hFin Try.prog Try.f74)) .normal)) =
  f74_g1_4 call k xg (d 0) (d 3) H := by
  cases xg with
  | bool b => cases b with
    | true => exact onGrd_b.trans (f74_g1_4_true call k)
    | false => exact onGrd_b.trans (f74_g1_4_false call k)
  | _ => kernel_rfl
noncomputable def f74_r1 (call : Handle) (k : Nat) (x0 x3 : Value) (H : GH) : M (Value × GH) :=
  onV (oFieldAddr Try.prog 29 x3 0) fun v1 =>
  onV (gLoad Try.prog 5 v1 H) fun v2 =>
  onV ((oBin Try.prog .geq 5 v2 (.int .u8 1)).filter closed) fun v3 =>
  (f74_g1_4 call k v3 x0 x3 H)
theorem f74_r1_eq (call : Handle) (k : Nat) : gCode Try.prog call k (fAt Try.f74 [1,0]) (FF 33 d) H (hSeq (gCode Try.prog call k (fAt Try.f74 [1,1])) (hFin Try.prog Try.f74)) = f74_r1 call k (d 0) (d 3) H := by
  unfold f74_r1
  rw [n74_3]
  rw [gOps_split 0 4, s74_1]
  refine onV_c fun v1 => ?_
  refine onV_c fun v2 => ?_
  refine onV_c fun v3 => ?_
  rw [show ((FF 33 d) |>.set 5 v1 |>.set 6 v2 |>.set 7 v3 |>.set 8 v3) = ((FF 33 (gf ((FF 33 d) |>.set 5 v1 |>.set 6 v2 |>.set 7 v3 |>.set 8 v3))) |>.set 8 v3) from by kernel_rfl]
  exact (f74_g1_4_eq (d := gf ((FF 33 d) |>.set 5 v1 |>.set 6 v2 |>.set 7 v3 |>.set 8 v3)) call k).trans (by kernel_rfl)
noncomputable def f74_sh (call : Handle) (k : Nat) (p0 p1 : Value) (H : GH) : M (Value × GH) :=
  (f74_r1 call k p0 (.pointer (some ⟨H.n, 0, none⟩)) (GH.push H (.row (Value.cells p1).toList 29 false)))
theorem f74_run (call : Handle) (k : Nat) (p0 p1 : Value) (H : GH) : gCode Try.prog call k (fAt Try.f74 []) ((FF 33 fun _ => undef) |>.set 0 p0 |>.set 1 p1) H (hFin Try.prog Try.f74) = f74_sh call k p0 p1 H := by
  unfold f74_sh
  rw [n74_0]
  rw [n74_1]
  rw [s74_0]
  rw [hSeq_n]
  rw [n74_2]
  rw [show ((FF 33 fun _ => undef) |>.set 0 p0 |>.set 1 p1 |>.set 3 (.pointer (some ⟨H.n, 0, none⟩)) |>.set 4 (.bool false)) = (FF 33 (gf ((FF 33 fun _ => undef) |>.set 0 p0 |>.set 1 p1 |>.set 3 (.pointer (some ⟨H.n, 0, none⟩)) |>.set 4 (.bool false)))) from by kernel_rfl]
  exact (f74_r1_eq (d := gf ((FF 33 fun _ => undef) |>.set 0 p0 |>.set 1 p1 |>.set 3 (.pointer (some ⟨H.n, 0, none⟩)) |>.set 4 (.bool false))) call k).trans (by kernel_rfl)
theorem f74_eq (call : Handle) (k : Nat) (p0 p1 : Value) (H : GH) : gFunc Try.prog call k Try.f74 [p0, p1] H = f74_sh call k p0 p1 H :=
  Eq.trans (by kernel_rfl) (f74_run call k p0 p1 H)
end
section
variable {β : Type} {call : Handle} {k : Nat} {a : GA} {K : Kont β} {K' : GA → GH → M β}
variable {d : Nat → Value} {xg : Value}
variable {p0 p1 p2 : Value}
variable {v1 v2 v3 v4 v5 v6 v7 v8 v9 : Value}
variable {H H10 : GH}
theorem n75_0 : gCode Try.prog call k (fAt Try.f75 []) a H K = gCode Try.prog call k (fAt Try.f75 [0]) a H (hSeq (gCode Try.prog call k (fAt Try.f75 [1])) K) := at_seq (by kernel_rfl)
theorem n75_1 : gCode Try.prog call k (fAt Try.f75 [0]) a H K = gOps Try.prog 0 call (opsAt (fAt Try.f75 [0])) ((opsAt (fAt Try.f75 [0])).drop 0) a H (K .normal) := at_region (by kernel_rfl)
theorem n75_2 : gCode Try.prog call k (fAt Try.f75 [1]) a H K = gCode Try.prog call k (fAt Try.f75 [1,0]) a H (hSeq (gCode Try.prog call k (fAt Try.f75 [1,1])) K) := at_seq (by kernel_rfl)
theorem n75_3 : gCode Try.prog call k (fAt Try.f75 [1,0]) a H K = gOps Try.prog 1 call (opsAt (fAt Try.f75 [1,0])) ((opsAt (fAt Try.f75 [1,0])).drop 0) a H (K .normal) := at_region (by kernel_rfl)
theorem n75_4 : gCode Try.prog call k (fAt Try.f75 [1,1]) a H K = gCode Try.prog call k (fAt Try.f75 [1,1,0]) a H (hSeq (gCode Try.prog call k (fAt Try.f75 [1,1,1])) K) := at_seq (by kernel_rfl)
theorem n75_5 : gCode Try.prog call k (fAt Try.f75 [1,1,0]) a H K = gOps Try.prog 0 call (opsAt (fAt Try.f75 [1,1,0])) ((opsAt (fAt Try.f75 [1,1,0])).drop 0) a H (K .normal) := at_region (by kernel_rfl)
theorem n75_6 : gCode Try.prog call k (fAt Try.f75 [1,1,1]) a H K = gCode Try.prog call k (fAt Try.f75 [1,1,1,0]) a H (hSeq (gCode Try.prog call k (fAt Try.f75 [1,1,1,1])) K) := at_seq (by kernel_rfl)
theorem n75_7 : gCode Try.prog call k (fAt Try.f75 [1,1,1,0]) a H K = gCode Try.prog call k (fAt Try.f75 [1,1,1,0,0]) a H (hSeq (gCode Try.prog call k (fAt Try.f75 [1,1,1,0,1])) K) := at_seq (by kernel_rfl)
theorem n75_8 : gCode Try.prog call k (fAt Try.f75 [1,1,1,0,0]) a H K = gOps Try.prog 1 call (opsAt (fAt Try.f75 [1,1,1,0,0])) ((opsAt (fAt Try.f75 [1,1,1,0,0])).drop 0) a H (K .normal) := at_region (by kernel_rfl)
theorem n75_9 : gCode Try.prog call k (fAt Try.f75 [1,1,1,0,1]) a H K = onBool (asB (GA.eval a (.tmp 27))) (gCode Try.prog call k (fAt Try.f75 [1,1,1,0,1,0]) a H K) (gCode Try.prog call k (fAt Try.f75 [1,1,1,0,1,1]) a H K) := at_cond (by kernel_rfl)
theorem n75_10 : gCode Try.prog call k (fAt Try.f75 [1,1,1,0,1,0]) a H K = gOps Try.prog 0 call (opsAt (fAt Try.f75 [1,1,1,0,1,0])) ((opsAt (fAt Try.f75 [1,1,1,0,1,0])).drop 0) a H (K .normal) := at_region (by kernel_rfl)
theorem n75_11 : gCode Try.prog call k (fAt Try.f75 [1,1,1,0,1,1]) a H K = K .normal a H := at_skip (by kernel_rfl)
theorem n75_12 : gCode Try.prog call k (fAt Try.f75 [1,1,1,1]) a H K = gCode Try.prog call k (fAt Try.f75 [1,1,1,1,0]) a H (hSeq (gCode Try.prog call k (fAt Try.f75 [1,1,1,1,1])) K) := at_seq (by kernel_rfl)
theorem n75_13 : gCode Try.prog call k (fAt Try.f75 [1,1,1,1,0]) a H K = gCode Try.prog call k (fAt Try.f75 [1,1,1,1,0,0]) a H (hSeq (gCode Try.prog call k (fAt Try.f75 [1,1,1,1,0,1])) K) := at_seq (by kernel_rfl)
theorem n75_14 : gCode Try.prog call k (fAt Try.f75 [1,1,1,1,0,0]) a H K = gOps Try.prog 0 call (opsAt (fAt Try.f75 [1,1,1,1,0,0])) ((opsAt (fAt Try.f75 [1,1,1,1,0,0])).drop 0) a H (K .normal) := at_region (by kernel_rfl)
theorem n75_15 : gCode Try.prog call k (fAt Try.f75 [1,1,1,1,0,1]) a H K = gCode Try.prog call k (fAt Try.f75 [1,1,1,1,0,1,0]) a H (hBlock 0 K) := at_block (by kernel_rfl)
theorem n75_16 : gCode Try.prog call k (fAt Try.f75 [1,1,1,1,0,1,0]) a H K = gLoop (gCode Try.prog call k (fAt Try.f75 [1,1,1,1,0,1,0,0])) K k a H := at_loop (by kernel_rfl)
theorem n75_17 : gCode Try.prog call k (fAt Try.f75 [1,1,1,1,0,1,0,0]) a H K = gCode Try.prog call k (fAt Try.f75 [1,1,1,1,0,1,0,0,0]) a H (hSeq (gCode Try.prog call k (fAt Try.f75 [1,1,1,1,0,1,0,0,1])) K) := at_seq (by kernel_rfl)
theorem n75_18 : gCode Try.prog call k (fAt Try.f75 [1,1,1,1,0,1,0,0,0]) a H K = gCode Try.prog call k (fAt Try.f75 [1,1,1,1,0,1,0,0,0,0]) a H (hSeq (gCode Try.prog call k (fAt Try.f75 [1,1,1,1,0,1,0,0,0,1])) K) := at_seq (by kernel_rfl)
theorem n75_19 : gCode Try.prog call k (fAt Try.f75 [1,1,1,1,0,1,0,0,0,0]) a H K = gOps Try.prog 0 call (opsAt (fAt Try.f75 [1,1,1,1,0,1,0,0,0,0])) ((opsAt (fAt Try.f75 [1,1,1,1,0,1,0,0,0,0])).drop 0) a H (K .normal) := at_region (by kernel_rfl)
theorem n75_20 : gCode Try.prog call k (fAt Try.f75 [1,1,1,1,0,1,0,0,0,1]) a H K = onBool (asB (GA.eval a (.tmp 34))) (gCode Try.prog call k (fAt Try.f75 [1,1,1,1,0,1,0,0,0,1,0]) a H K) (gCode Try.prog call k (fAt Try.f75 [1,1,1,1,0,1,0,0,0,1,1]) a H K) := at_cond (by kernel_rfl)
theorem n75_21 : gCode Try.prog call k (fAt Try.f75 [1,1,1,1,0,1,0,0,0,1,0]) a H K = K .normal a H := at_skip (by kernel_rfl)
theorem n75_22 : gCode Try.prog call k (fAt Try.f75 [1,1,1,1,0,1,0,0,1]) a H K = gCode Try.prog call k (fAt Try.f75 [1,1,1,1,0,1,0,0,1,0]) a H (hSeq (gCode Try.prog call k (fAt Try.f75 [1,1,1,1,0,1,0,0,1,1])) K) := at_seq (by kernel_rfl)
theorem n75_23 : gCode Try.prog call k (fAt Try.f75 [1,1,1,1,0,1,0,0,1,0]) a H K = gCode Try.prog call k (fAt Try.f75 [1,1,1,1,0,1,0,0,1,0,0]) a H (hBlock 1 K) := at_block (by kernel_rfl)
theorem n75_24 : gCode Try.prog call k (fAt Try.f75 [1,1,1,1,0,1,0,0,1,0,0]) a H K = gCode Try.prog call k (fAt Try.f75 [1,1,1,1,0,1,0,0,1,0,0,0]) a H (hSeq (gCode Try.prog call k (fAt Try.f75 [1,1,1,1,0,1,0,0,1,0,0,1])) K) := at_seq (by kernel_rfl)
theorem n75_25 : gCode Try.prog call k (fAt Try.f75 [1,1,1,1,0,1,0,0,0,1,1]) a H K = K (.exit 0) a H := at_exit (by kernel_rfl)
theorem n75_26 : gCode Try.prog call k (fAt Try.f75 [1,1,1,1,0,1,0,0,1,0,0,0]) a H K = gOps Try.prog 1 call (opsAt (fAt Try.f75 [1,1,1,1,0,1,0,0,1,0,0,0])) ((opsAt (fAt Try.f75 [1,1,1,1,0,1,0,0,1,0,0,0])).drop 0) a H (K .normal) := at_region (by kernel_rfl)
theorem n75_27 : gCode Try.prog call k (fAt Try.f75 [1,1,1,1,0,1,0,0,1,0,0,1]) a H K = onBool (asB (GA.eval a (.tmp 51))) (gCode Try.prog call k (fAt Try.f75 [1,1,1,1,0,1,0,0,1,0,0,1,0]) a H K) (gCode Try.prog call k (fAt Try.f75 [1,1,1,1,0,1,0,0,1,0,0,1,1]) a H K) := at_cond (by kernel_rfl)
theorem n75_28 : gCode Try.prog call k (fAt Try.f75 [1,1,1,1,0,1,0,0,1,0,0,1,1]) a H K = K .normal a H := at_skip (by kernel_rfl)
theorem n75_29 : gCode Try.prog call k (fAt Try.f75 [1,1,1,1,1]) a H K = gCode Try.prog call k (fAt Try.f75 [1,1,1,1,1,0]) a H (hSeq (gCode Try.prog call k (fAt Try.f75 [1,1,1,1,1,1])) K) := at_seq (by kernel_rfl)
theorem n75_30 : gCode Try.prog call k (fAt Try.f75 [1,1,1,1,1,0]) a H K = gCode Try.prog call k (fAt Try.f75 [1,1,1,1,1,0,0]) a H (hSeq (gCode Try.prog call k (fAt Try.f75 [1,1,1,1,1,0,1])) K) := at_seq (by kernel_rfl)
theorem n75_31 : gCode Try.prog call k (fAt Try.f75 [1,1,1,1,1,0,0]) a H K = gOps Try.prog 0 call (opsAt (fAt Try.f75 [1,1,1,1,1,0,0])) ((opsAt (fAt Try.f75 [1,1,1,1,1,0,0])).drop 0) a H (K .normal) := at_region (by kernel_rfl)
theorem n75_32 : gCode Try.prog call k (fAt Try.f75 [1,1,1,1,1,0,1]) a H K = gCode Try.prog call k (fAt Try.f75 [1,1,1,1,1,0,1,0]) a H (hBlock 2 K) := at_block (by kernel_rfl)
theorem n75_33 : gCode Try.prog call k (fAt Try.f75 [1,1,1,1,1,0,1,0]) a H K = gLoop (gCode Try.prog call k (fAt Try.f75 [1,1,1,1,1,0,1,0,0])) K k a H := at_loop (by kernel_rfl)
theorem n75_34 : gCode Try.prog call k (fAt Try.f75 [1,1,1,1,0,1,0,0,1,0,0,1,0]) a H K = gOps Try.prog 0 call (opsAt (fAt Try.f75 [1,1,1,1,0,1,0,0,1,0,0,1,0])) ((opsAt (fAt Try.f75 [1,1,1,1,0,1,0,0,1,0,0,1,0])).drop 0) a H (K .normal) := at_region (by kernel_rfl)
theorem n75_35 : gCode Try.prog call k (fAt Try.f75 [1,1,1,1,0,1,0,0,1,1]) a H K = gOps Try.prog 0 call (opsAt (fAt Try.f75 [1,1,1,1,0,1,0,0,1,1])) ((opsAt (fAt Try.f75 [1,1,1,1,0,1,0,0,1,1])).drop 0) a H (K .normal) := at_region (by kernel_rfl)
theorem n75_36 : gCode Try.prog call k (fAt Try.f75 [1,1,1,1,1,0,1,0,0]) a H K = gCode Try.prog call k (fAt Try.f75 [1,1,1,1,1,0,1,0,0,0]) a H (hSeq (gCode Try.prog call k (fAt Try.f75 [1,1,1,1,1,0,1,0,0,1])) K) := at_seq (by kernel_rfl)
theorem n75_37 : gCode Try.prog call k (fAt Try.f75 [1,1,1,1,1,0,1,0,0,0]) a H K = gCode Try.prog call k (fAt Try.f75 [1,1,1,1,1,0,1,0,0,0,0]) a H (hSeq (gCode Try.prog call k (fAt Try.f75 [1,1,1,1,1,0,1,0,0,0,1])) K) := at_seq (by kernel_rfl)
theorem n75_38 : gCode Try.prog call k (fAt Try.f75 [1,1,1,1,1,0,1,0,0,0,0]) a H K = gOps Try.prog 0 call (opsAt (fAt Try.f75 [1,1,1,1,1,0,1,0,0,0,0])) ((opsAt (fAt Try.f75 [1,1,1,1,1,0,1,0,0,0,0])).drop 0) a H (K .normal) := at_region (by kernel_rfl)
theorem n75_39 : gCode Try.prog call k (fAt Try.f75 [1,1,1,1,1,0,1,0,0,0,1]) a H K = onBool (asB (GA.eval a (.tmp 58))) (gCode Try.prog call k (fAt Try.f75 [1,1,1,1,1,0,1,0,0,0,1,0]) a H K) (gCode Try.prog call k (fAt Try.f75 [1,1,1,1,1,0,1,0,0,0,1,1]) a H K) := at_cond (by kernel_rfl)
theorem n75_40 : gCode Try.prog call k (fAt Try.f75 [1,1,1,1,1,0,1,0,0,0,1,0]) a H K = K .normal a H := at_skip (by kernel_rfl)
theorem n75_41 : gCode Try.prog call k (fAt Try.f75 [1,1,1,1,1,0,1,0,0,1]) a H K = gCode Try.prog call k (fAt Try.f75 [1,1,1,1,1,0,1,0,0,1,0]) a H (hSeq (gCode Try.prog call k (fAt Try.f75 [1,1,1,1,1,0,1,0,0,1,1])) K) := at_seq (by kernel_rfl)
theorem n75_42 : gCode Try.prog call k (fAt Try.f75 [1,1,1,1,1,0,1,0,0,1,0]) a H K = gCode Try.prog call k (fAt Try.f75 [1,1,1,1,1,0,1,0,0,1,0,0]) a H (hBlock 3 K) := at_block (by kernel_rfl)
theorem n75_43 : gCode Try.prog call k (fAt Try.f75 [1,1,1,1,1,0,1,0,0,1,0,0]) a H K = gCode Try.prog call k (fAt Try.f75 [1,1,1,1,1,0,1,0,0,1,0,0,0]) a H (hSeq (gCode Try.prog call k (fAt Try.f75 [1,1,1,1,1,0,1,0,0,1,0,0,1])) K) := at_seq (by kernel_rfl)
theorem n75_44 : gCode Try.prog call k (fAt Try.f75 [1,1,1,1,1,0,1,0,0,0,1,1]) a H K = K (.exit 2) a H := at_exit (by kernel_rfl)
theorem n75_45 : gCode Try.prog call k (fAt Try.f75 [1,1,1,1,1,1]) a H K = gCode Try.prog call k (fAt Try.f75 [1,1,1,1,1,1,0]) a H (hSeq (gCode Try.prog call k (fAt Try.f75 [1,1,1,1,1,1,1])) K) := at_seq (by kernel_rfl)
theorem n75_46 : gCode Try.prog call k (fAt Try.f75 [1,1,1,1,1,1,0]) a H K = gOps Try.prog 0 call (opsAt (fAt Try.f75 [1,1,1,1,1,1,0])) ((opsAt (fAt Try.f75 [1,1,1,1,1,1,0])).drop 0) a H (K .normal) := at_region (by kernel_rfl)
theorem n75_47 : gCode Try.prog call k (fAt Try.f75 [1,1,1,1,1,1,1]) a H K = K .ret a H := at_ret (by kernel_rfl)
theorem n75_48 : gCode Try.prog call k (fAt Try.f75 [1,1,1,1,1,0,1,0,0,1,0,0,0]) a H K = gOps Try.prog 1 call (opsAt (fAt Try.f75 [1,1,1,1,1,0,1,0,0,1,0,0,0])) ((opsAt (fAt Try.f75 [1,1,1,1,1,0,1,0,0,1,0,0,0])).drop 0) a H (K .normal) := at_region (by kernel_rfl)
theorem n75_49 : gCode Try.prog call k (fAt Try.f75 [1,1,1,1,1,0,1,0,0,1,0,0,1]) a H K = onBool (asB (GA.eval a (.tmp 77))) (gCode Try.prog call k (fAt Try.f75 [1,1,1,1,1,0,1,0,0,1,0,0,1,0]) a H K) (gCode Try.prog call k (fAt Try.f75 [1,1,1,1,1,0,1,0,0,1,0,0,1,1]) a H K) := at_cond (by kernel_rfl)
theorem n75_50 : gCode Try.prog call k (fAt Try.f75 [1,1,1,1,1,0,1,0,0,1,0,0,1,1]) a H K = K .normal a H := at_skip (by kernel_rfl)
theorem n75_51 : gCode Try.prog call k (fAt Try.f75 [1,1,1,1,1,0,1,0,0,1,0,0,1,0]) a H K = gOps Try.prog 0 call (opsAt (fAt Try.f75 [1,1,1,1,1,0,1,0,0,1,0,0,1,0])) ((opsAt (fAt Try.f75 [1,1,1,1,1,0,1,0,0,1,0,0,1,0])).drop 0) a H (K .normal) := at_region (by kernel_rfl)
theorem n75_52 : gCode Try.prog call k (fAt Try.f75 [1,1,1,1,1,0,1,0,0,1,1]) a H K = gOps Try.prog 0 call (opsAt (fAt Try.f75 [1,1,1,1,1,0,1,0,0,1,1])) ((opsAt (fAt Try.f75 [1,1,1,1,1,0,1,0,0,1,1])).drop 0) a H (K .normal) := at_region (by kernel_rfl)
theorem s75_0 : gOps Try.prog 0 call (opsAt (fAt Try.f75 [0])) ((opsAt (fAt Try.f75 [0])).drop 0) ((FF 81 fun _ => undef) |>.set 0 p0 |>.set 1 p1 |>.set 2 p2) H K' =
  K' ((FF 81 fun _ => undef) |>.set 0 p0 |>.set 1 p1 |>.set 2 p2 |>.set 4 (.pointer (some ⟨H.n, 0, none⟩)) |>.set 5 (.pointer (some ⟨(GH.push H (.row (Value.cells p1).toList 29 false)).n, 0, none⟩)) |>.set 6 (.int .i64 0)) (GH.push (GH.push H (.row (Value.cells p1).toList 29 false)) (.row (Value.cells p2).toList 160 false)) := by kernel_rfl
theorem s75_1 : gOps Try.prog 1 call (opsAt (fAt Try.f75 [1,0])) ((opsAt (fAt Try.f75 [1,0])).drop 0) (FF 81 d) H K' =
  onV (oFieldAddr Try.prog 29 (d 4) 0) fun v1 =>
  onV (gLoad Try.prog 5 v1 H) fun v2 =>
  onV ((oBin Try.prog .sub 5 v2 (.int .u8 1)).filter closed) fun v3 =>
  onV (oIndexAddr Try.prog 58 (d 0) v3) fun v4 =>
  onV (gLoad Try.prog 59 v4 H) fun v5 =>
  onV (oFieldAddr Try.prog 29 (d 4) 1) fun v6 =>
  onV (gLoad Try.prog 3 v6 H) fun v7 =>
  onV (oIndexAddr Try.prog 59 v5 v7) fun v8 =>
  onV (gLoad Try.prog 62 v8 H) fun v9 =>
  onH (gStore Try.prog 62 (.pointer (some ⟨H.n, 0, none⟩)) v9 (GH.push H (.row [(.int .u8 0), (.bool false), (.slice none 0 0), (.slice none 0 0)] 62 false))) fun H10 =>
  K' ((FF 81 d) |>.set 11 (d 0) |>.set 12 v1 |>.set 13 v2 |>.set 14 v3 |>.set 15 v4 |>.set 16 v5 |>.set 17 v6 |>.set 18 v7 |>.set 19 v8 |>.set 20 v9 |>.set 7 (.pointer (some ⟨H.n, 0, none⟩))) H10 := by kernel_rfl
theorem s75_2 : gOps Try.prog 0 call (opsAt (fAt Try.f75 [1,1,0])) ((opsAt (fAt Try.f75 [1,1,0])).drop 0) ((FF 81 d) |>.set 11 (d 0) |>.set 12 v1 |>.set 13 v2 |>.set 14 v3 |>.set 15 v4 |>.set 16 v5 |>.set 17 v6 |>.set 18 v7 |>.set 19 v8 |>.set 20 v9 |>.set 7 (.pointer (some ⟨H.n, 0, none⟩))) H10 K' =
  K' ((FF 81 d) |>.set 11 (d 0) |>.set 12 v1 |>.set 13 v2 |>.set 14 v3 |>.set 15 v4 |>.set 16 v5 |>.set 17 v6 |>.set 18 v7 |>.set 19 v8 |>.set 20 v9 |>.set 7 (.pointer (some ⟨H.n, 0, none⟩)) |>.set 8 (.int .i64 0)) H10 := by kernel_rfl
theorem s75_3 : gOps Try.prog 1 call (opsAt (fAt Try.f75 [1,1,1,0,0])) ((opsAt (fAt Try.f75 [1,1,1,0,0])).drop 0) (FF 81 d) H K' =
  onV (oFieldAddr Try.prog 29 (d 4) 1) fun v1 =>
  onV (gLoad Try.prog 3 v1 H) fun v2 =>
  onV (oFieldAddr Try.prog 29 (d 4) 0) fun v3 =>
  onV (gLoad Try.prog 5 v3 H) fun v4 =>
  onV (oIndexAddr Try.prog 160 (d 5) v4) fun v5 =>
  onV (gLoad Try.prog 3 v5 H) fun v6 =>
  onV ((oBin Try.prog .gtr 3 v2 v6).filter closed) fun v7 =>
  K' ((FF 81 d) |>.set 21 v1 |>.set 22 v2 |>.set 23 v3 |>.set 24 v4 |>.set 25 v5 |>.set 26 v6 |>.set 27 v7) H := by kernel_rfl
theorem s75_4 : gOps Try.prog 0 call (opsAt (fAt Try.f75 [1,1,1,0,1,0])) ((opsAt (fAt Try.f75 [1,1,1,0,1,0])).drop 0) ((FF 81 d) |>.set 21 v1 |>.set 22 v2 |>.set 23 v3 |>.set 24 v4 |>.set 25 v5 |>.set 26 v6 |>.set 27 v7) H K' =
  onV ((oBin Try.prog .add 3 (d 8) (.int .i64 1)).filter closed) fun v8 =>
  K' ((FF 81 d) |>.set 21 v1 |>.set 22 v2 |>.set 23 v3 |>.set 24 v4 |>.set 25 v5 |>.set 26 v6 |>.set 27 v7 |>.set 28 (d 8) |>.set 29 v8 |>.set 8 v8) H := by kernel_rfl
theorem s75_5 : gOps Try.prog 0 call (opsAt (fAt Try.f75 [1,1,1,1,0,0])) ((opsAt (fAt Try.f75 [1,1,1,1,0,0])).drop 0) (FF 81 d) H K' =
  K' ((FF 81 d) |>.set 9 (.int .i64 0)) H := by kernel_rfl
theorem s75_6 : gOps Try.prog 0 call (opsAt (fAt Try.f75 [1,1,1,1,0,1,0,0,0,0])) ((opsAt (fAt Try.f75 [1,1,1,1,0,1,0,0,0,0])).drop 0) (FF 81 d) H K' =
  onV (oFieldAddr Try.prog 62 (d 7) 2) fun v1 =>
  onV (gLoad Try.prog 26 v1 H) fun v2 =>
  onV (oLen Try.prog 26 v2) fun v3 =>
  onV ((oBin Try.prog .lss 3 (d 9) v3).filter closed) fun v4 =>
  K' ((FF 81 d) |>.set 30 (d 9) |>.set 31 v1 |>.set 32 v2 |>.set 33 v3 |>.set 34 v4) H := by kernel_rfl
theorem s75_7 : gOps Try.prog 1 call (opsAt (fAt Try.f75 [1,1,1,1,0,1,0,0,1,0,0,0])) ((opsAt (fAt Try.f75 [1,1,1,1,0,1,0,0,1,0,0,0])).drop 0) (FF 81 d) H K' =
  onV (oFieldAddr Try.prog 62 (d 7) 2) fun v1 =>
  onV (gLoad Try.prog 26 v1 H) fun v2 =>
  onV (oIndexAddr Try.prog 26 v2 (d 9)) fun v3 =>
  onV (oFieldAddr Try.prog 29 v3 1) fun v4 =>
  onV (gLoad Try.prog 3 v4 H) fun v5 =>
  onV (oFieldAddr Try.prog 62 (d 7) 2) fun v6 =>
  onV (gLoad Try.prog 26 v6 H) fun v7 =>
  onV (oIndexAddr Try.prog 26 v7 (d 9)) fun v8 =>
  onV (oFieldAddr Try.prog 29 v8 0) fun v9 =>
  onV (gLoad Try.prog 5 v9 H) fun v10 =>
  onV (oIndexAddr Try.prog 160 (d 5) v10) fun v11 =>
  onV (gLoad Try.prog 3 v11 H) fun v12 =>
  onV ((oBin Try.prog .geq 3 v5 v12).filter closed) fun v13 =>
  K' ((FF 81 d) |>.set 37 v1 |>.set 38 v2 |>.set 39 (d 9) |>.set 40 v3 |>.set 41 v4 |>.set 42 v5 |>.set 43 v6 |>.set 44 v7 |>.set 45 (d 9) |>.set 46 v8 |>.set 47 v9 |>.set 48 v10 |>.set 49 v11 |>.set 50 v12 |>.set 51 v13) H := by kernel_rfl
theorem s75_8 : gOps Try.prog 0 call (opsAt (fAt Try.f75 [1,1,1,1,1,0,0])) ((opsAt (fAt Try.f75 [1,1,1,1,1,0,0])).drop 0) (FF 81 d) H K' =
  K' ((FF 81 d) |>.set 10 (.int .i64 0)) H := by kernel_rfl
theorem s75_9 : gOps Try.prog 0 call (opsAt (fAt Try.f75 [1,1,1,1,0,1,0,0,1,0,0,1,0])) ((opsAt (fAt Try.f75 [1,1,1,1,0,1,0,0,1,0,0,1,0])).drop 0) (FF 81 d) H K' =
  onV ((oBin Try.prog .add 3 (d 8) (.int .i64 1)).filter closed) fun v1 =>
  K' ((FF 81 d) |>.set 52 (d 8) |>.set 53 v1 |>.set 8 v1) H := by kernel_rfl
theorem s75_10 : gOps Try.prog 0 call (opsAt (fAt Try.f75 [1,1,1,1,0,1,0,0,1,1])) ((opsAt (fAt Try.f75 [1,1,1,1,0,1,0,0,1,1])).drop 0) ((FF 81 d) |>.set 52 (d 8) |>.set 53 v1 |>.set 8 v1) H K' =
  onV ((oBin Try.prog .add 3 (d 9) (.int .i64 1)).filter closed) fun v2 =>
  K' ((FF 81 d) |>.set 52 (d 8) |>.set 53 v1 |>.set 8 v1 |>.set 35 (d 9) |>.set 36 v2 |>.set 9 v2) H := by kernel_rfl
theorem s75_11 : gOps Try.prog 0 call (opsAt (fAt Try.f75 [1,1,1,1,0,1,0,0,1,1])) ((opsAt (fAt Try.f75 [1,1,1,1,0,1,0,0,1,1])).drop 0) (FF 81 d) H K' =
  onV ((oBin Try.prog .add 3 (d 9) (.int .i64 1)).filter closed) fun v1 =>
  K' ((FF 81 d) |>.set 35 (d 9) |>.set 36 v1 |>.set 9 v1) H := by kernel_rfl
theorem s75_12 : gOps Try.prog 0 call (opsAt (fAt Try.f75 [1,1,1,1,1,0,1,0,0,0,0])) ((opsAt (fAt Try.f75 [1,1,1,1,1,0,1,0,0,0,0])).drop 0) (FF 81 d) H K' =
  onV (oFieldAddr Try.prog 62 (d 7) 3) fun v1 =>
  onV (gLoad Try.prog 60 v1 H) fun v2 =>
  onV (oLen Try.prog 60 v2) fun v3 =>
  onV ((oBin Try.prog .lss 3 (d 10) v3).filter closed) fun v4 =>
  K' ((FF 81 d) |>.set 54 (d 10) |>.set 55 v1 |>.set 56 v2 |>.set 57 v3 |>.set 58 v4) H := by kernel_rfl
theorem s75_13 : gOps Try.prog 0 call (opsAt (fAt Try.f75 [1,1,1,1,1,1,0])) ((opsAt (fAt Try.f75 [1,1,1,1,1,1,0])).drop 0) ((FF 81 d) |>.set 54 (d 10) |>.set 55 v1 |>.set 56 v2 |>.set 57 v3 |>.set 58 v4) H K' =
  K' ((FF 81 d) |>.set 54 (d 10) |>.set 55 v1 |>.set 56 v2 |>.set 57 v3 |>.set 58 v4 |>.set 80 (d 8) |>.set 6 (d 8)) H := by kernel_rfl
theorem s75_14 : gOps Try.prog 1 call (opsAt (fAt Try.f75 [1,1,1,1,1,0,1,0,0,1,0,0,0])) ((opsAt (fAt Try.f75 [1,1,1,1,1,0,1,0,0,1,0,0,0])).drop 0) (FF 81 d) H K' =
  onV (oFieldAddr Try.prog 62 (d 7) 3) fun v1 =>
  onV (gLoad Try.prog 60 v1 H) fun v2 =>
  onV (oIndexAddr Try.prog 60 v2 (d 10)) fun v3 =>
  onV (oFieldAddr Try.prog 157 v3 0) fun v4 =>
  onV (oFieldAddr Try.prog 29 v4 1) fun v5 =>
  onV (gLoad Try.prog 3 v5 H) fun v6 =>
  onV (oFieldAddr Try.prog 62 (d 7) 3) fun v7 =>
  onV (gLoad Try.prog 60 v7 H) fun v8 =>
  onV (oIndexAddr Try.prog 60 v8 (d 10)) fun v9 =>
  onV (oFieldAddr Try.prog 157 v9 0) fun v10 =>
  onV (oFieldAddr Try.prog 29 v10 0) fun v11 =>
  onV (gLoad Try.prog 5 v11 H) fun v12 =>
  onV (oIndexAddr Try.prog 160 (d 5) v12) fun v13 =>
  onV (gLoad Try.prog 3 v13 H) fun v14 =>
  onV ((oBin Try.prog .geq 3 v6 v14).filter closed) fun v15 =>
  K' ((FF 81 d) |>.set 61 v1 |>.set 62 v2 |>.set 63 (d 10) |>.set 64 v3 |>.set 65 v4 |>.set 66 v5 |>.set 67 v6 |>.set 68 v7 |>.set 69 v8 |>.set 70 (d 10) |>.set 71 v9 |>.set 72 v10 |>.set 73 v11 |>.set 74 v12 |>.set 75 v13 |>.set 76 v14 |>.set 77 v15) H := by kernel_rfl
theorem s75_15 : gOps Try.prog 0 call (opsAt (fAt Try.f75 [1,1,1,1,1,0,1,0,0,1,0,0,1,0])) ((opsAt (fAt Try.f75 [1,1,1,1,1,0,1,0,0,1,0,0,1,0])).drop 0) (FF 81 d) H K' =
  onV ((oBin Try.prog .add 3 (d 8) (.int .i64 1)).filter closed) fun v1 =>
  K' ((FF 81 d) |>.set 78 (d 8) |>.set 79 v1 |>.set 8 v1) H := by kernel_rfl
theorem s75_16 : gOps Try.prog 0 call (opsAt (fAt Try.f75 [1,1,1,1,1,0,1,0,0,1,1])) ((opsAt (fAt Try.f75 [1,1,1,1,1,0,1,0,0,1,1])).drop 0) ((FF 81 d) |>.set 78 (d 8) |>.set 79 v1 |>.set 8 v1) H K' =
  onV ((oBin Try.prog .add 3 (d 10) (.int .i64 1)).filter closed) fun v2 =>
  K' ((FF 81 d) |>.set 78 (d 8) |>.set 79 v1 |>.set 8 v1 |>.set 59 (d 10) |>.set 60 v2 |>.set 10 v2) H := by kernel_rfl
theorem s75_17 : gOps Try.prog 0 call (opsAt (fAt Try.f75 [1,1,1,1,1,0,1,0,0,1,1])) ((opsAt (fAt Try.f75 [1,1,1,1,1,0,1,0,0,1,1])).drop 0) (FF 81 d) H K' =
  onV ((oBin Try.prog .add 3 (d 10) (.int .i64 1)).filter closed) fun v1 =>
  K' ((FF 81 d) |>.set 59 (d 10) |>.set 60 v1 |>.set 10 v1) H := by kernel_rfl
def f75_l11_P (ag : GA → GH → M (Value × GH)) (sg : Value → Value → Value → Value → GH → M (Value × GH)) : Prop := ∀ (d : Nat → Value) (H : GH), ag (FF 81 d) H = sg (d 5) (d 7) (d 8) (d 10) H
theorem f75_l11_at {ag : GA → GH → M (Value × GH)} {sg : Value → Value → Value → Value → GH → M (Value × GH)} (h : f75_l11_P ag sg) : ag (FF 81 d) H = sg (d 5) (d 7) (d 8) (d 10) H := h d H
def f75_l6_P (ag : GA → GH → M (Value × GH)) (sg : Value → Value → Value → Value → GH → M (Value × GH)) : Prop := ∀ (d : Nat → Value) (H : GH), ag (FF 81 d) H = sg (d 5) (d 7) (d 8) (d 9) H
theorem f75_l6_at {ag : GA → GH → M (Value × GH)} {sg : Value → Value → Value → Value → GH → M (Value × GH)} (h : f75_l6_P ag sg) : ag (FF 81 d) H = sg (d 5) (d 7) (d 8) (d 9) H := h d H
noncomputable def f75_r9 (call : Handle) (k : Nat) (sg_l6 : Value → Value → Value → Value → GH → M (Value × GH)) (x5 x7 x8 x9 : Value) (H : GH) : M (Value × GH) :=
  onV ((oBin Try.prog .add 3 x8 (.int .i64 1)).filter closed) fun v1 =>
  onV ((oBin Try.prog .add 3 x9 (.int .i64 1)).filter closed) fun v2 =>
  (sg_l6 x5 x7 v1 v2 H)
theorem f75_r9_eq (call : Handle) (k : Nat) (ag_l6 : GA → GH → M (Value × GH)) (sg_l6 : Value → Value → Value → Value → GH → M (Value × GH)) (h_l6 : f75_l6_P ag_l6 sg_l6) : gCode Try.prog call k (fAt Try.f75 [1,1,1,1,0,1,0,0,1,0,0,1,0]) (FF 81 d) H (hBlock 1 (hSeq (gCode Try.prog call k (fAt Try.f75 [1,1,1,1,0,1,0,0,1,1])) (hLoop ag_l6 (hBlock 0 (hSeq (gCode Try.prog call k (fAt Try.f75 [1,1,1,1,1])) (hFin Try.prog Try.f75)))))) = f75_r9 call k sg_l6 (d 5) (d 7) (d 8) (d 9) H := by
  unfold f75_r9
  rw [n75_34]
  rw [s75_9]
  refine onV_c fun v1 => ?_
  rw [hBlock_n]
  rw [hSeq_n]
  rw [n75_35]
  rw [s75_10]
  refine onV_c fun v2 => ?_
  rw [hLoop_n]
  rw [show ((FF 81 d) |>.set 52 (d 8) |>.set 53 v1 |>.set 8 v1 |>.set 35 (d 9) |>.set 36 v2 |>.set 9 v2) = (FF 81 (gf ((FF 81 d) |>.set 52 (d 8) |>.set 53 v1 |>.set 8 v1 |>.set 35 (d 9) |>.set 36 v2 |>.set 9 v2))) from by kernel_rfl]
  exact (f75_l6_at (d := gf ((FF 81 d) |>.set 52 (d 8) |>.set 53 v1 |>.set 8 v1 |>.set 35 (d 9) |>.set 36 v2 |>.set 9 v2)) h_l6).trans (by kernel_rfl)
noncomputable def f75_r7 (call : Handle) (k : Nat) (sg_l6 : Value → Value → Value → Value → GH → M (Value × GH)) (x5 x7 x8 x9 : Value) (H : GH) : M (Value × GH) :=
  onV ((oBin Try.prog .add 3 x9 (.int .i64 1)).filter closed) fun v1 =>
  (sg_l6 x5 x7 x8 v1 H)
theorem f75_r7_eq (call : Handle) (k : Nat) (ag_l6 : GA → GH → M (Value × GH)) (sg_l6 : Value → Value → Value → Value → GH → M (Value × GH)) (h_l6 : f75_l6_P ag_l6 sg_l6) : gCode Try.prog call k (fAt Try.f75 [1,1,1,1,0,1,0,0,1,1]) (FF 81 d) H (hLoop ag_l6 (hBlock 0 (hSeq (gCode Try.prog call k (fAt Try.f75 [1,1,1,1,1])) (hFin Try.prog Try.f75)))) = f75_r7 call k sg_l6 (d 5) (d 7) (d 8) (d 9) H := by
  unfold f75_r7
  rw [n75_35]
  rw [s75_11]
  refine onV_c fun v1 => ?_
  rw [hLoop_n]
  rw [show ((FF 81 d) |>.set 35 (d 9) |>.set 36 v1 |>.set 9 v1) = (FF 81 (gf ((FF 81 d) |>.set 35 (d 9) |>.set 36 v1 |>.set 9 v1))) from by kernel_rfl]
  exact (f75_l6_at (d := gf ((FF 81 d) |>.set 35 (d 9) |>.set 36 v1 |>.set 9 v1)) h_l6).trans (by kernel_rfl)
noncomputable def f75_r8 (call : Handle) (k : Nat) (sg_l6 : Value → Value → Value → Value → GH → M (Value × GH)) (x5 x7 x8 x9 : Value) (H : GH) : M (Value × GH) :=
  onV (oFieldAddr Try.prog 62 x7 2) fun v1 =>
  onV (gLoad Try.prog 26 v1 H) fun v2 =>
  onV (oIndexAddr Try.prog 26 v2 x9) fun v3 =>
  onV (oFieldAddr Try.prog 29 v3 1) fun v4 =>
  onV (gLoad Try.prog 3 v4 H) fun v5 =>
  onV (oFieldAddr Try.prog 62 x7 2) fun v6 =>
  onV (gLoad Try.prog 26 v6 H) fun v7 =>
  onV (oIndexAddr Try.prog 26 v7 x9) fun v8 =>
  onV (oFieldAddr Try.prog 29 v8 0) fun v9 =>
  onV (gLoad Try.prog 5 v9 H) fun v10 =>
  onV (oIndexAddr Try.prog 160 x5 v10) fun v11 =>
  onV (gLoad Try.prog 3 v11 H) fun v12 =>
  onV ((oBin Try.prog .geq 3 v5 v12).filter closed) fun v13 =>
  onBool (asB v13)
  ((f75_r9 call k (sg_l6) x5 x7 x8 x9 H))
  ((f75_r7 call k (sg_l6) x5 x7 x8 x9 H))
theorem f75_r8_eq (call : Handle) (k : Nat) (ag_l6 : GA → GH → M (Value × GH)) (sg_l6 : Value → Value → Value → Value → GH → M (Value × GH)) (h_l6 : f75_l6_P ag_l6 sg_l6) : gCode Try.prog call k (fAt Try.f75 [1,1,1,1,0,1,0,0,1,0,0,0]) (FF 81 d) H (hSeq (gCode Try.prog call k (fAt Try.f75 [1,1,1,1,0,1,0,0,1,0,0,1])) (hBlock 1 (hSeq (gCode Try.prog call k (fAt Try.f75 [1,1,1,1,0,1,0,0,1,1])) (hLoop ag_l6 (hBlock 0 (hSeq (gCode Try.prog call k (fAt Try.f75 [1,1,1,1,1])) (hFin Try.prog Try.f75))))))) = f75_r8 call k sg_l6 (d 5) (d 7) (d 8) (d 9) H := by
  unfold f75_r8
  rw [n75_26]
  rw [s75_7]
  refine onV_c fun v1 => ?_
  refine onV_c fun v2 => ?_
  refine onV_c fun v3 => ?_
  refine onV_c fun v4 => ?_
  refine onV_c fun v5 => ?_
  refine onV_c fun v6 => ?_
  refine onV_c fun v7 => ?_
  refine onV_c fun v8 => ?_
  refine onV_c fun v9 => ?_
  refine onV_c fun v10 => ?_
  refine onV_c fun v11 => ?_
  refine onV_c fun v12 => ?_
  refine onV_c fun v13 => ?_
  rw [hSeq_n]
  rw [n75_27]
  refine onBool_cc (by kernel_rfl) ?_ ?_
  · rw [show ((FF 81 d) |>.set 37 v1 |>.set 38 v2 |>.set 39 (d 9) |>.set 40 v3 |>.set 41 v4 |>.set 42 v5 |>.set 43 v6 |>.set 44 v7 |>.set 45 (d 9) |>.set 46 v8 |>.set 47 v9 |>.set 48 v10 |>.set 49 v11 |>.set 50 v12 |>.set 51 v13) = (FF 81 (gf ((FF 81 d) |>.set 37 v1 |>.set 38 v2 |>.set 39 (d 9) |>.set 40 v3 |>.set 41 v4 |>.set 42 v5 |>.set 43 v6 |>.set 44 v7 |>.set 45 (d 9) |>.set 46 v8 |>.set 47 v9 |>.set 48 v10 |>.set 49 v11 |>.set 50 v12 |>.set 51 v13))) from by kernel_rfl]
    exact (f75_r9_eq (d := gf ((FF 81 d) |>.set 37 v1 |>.set 38 v2 |>.set 39 (d 9) |>.set 40 v3 |>.set 41 v4 |>.set 42 v5 |>.set 43 v6 |>.set 44 v7 |>.set 45 (d 9) |>.set 46 v8 |>.set 47 v9 |>.set 48 v10 |>.set 49 v11 |>.set 50 v12 |>.set 51 v13)) call k ag_l6 sg_l6 h_l6).trans (by kernel_rfl)
  · rw [n75_28]
    rw [hBlock_n]
    rw [hSeq_n]
    rw [show ((FF 81 d) |>.set 37 v1 |>.set 38 v2 |>.set 39 (d 9) |>.set 40 v3 |>.set 41 v4 |>.set 42 v5 |>.set 43 v6 |>.set 44 v7 |>.set 45 (d 9) |>.set 46 v8 |>.set 47 v9 |>.set 48 v10 |>.set 49 v11 |>.set 50 v12 |>.set 51 v13) = (FF 81 (gf ((FF 81 d) |>.set 37 v1 |>.set 38 v2 |>.set 39 (d 9) |>.set 40 v3 |>.set 41 v4 |>.set 42 v5 |>.set 43 v6 |>.set 44 v7 |>.set 45 (d 9) |>.set 46 v8 |>.set 47 v9 |>.set 48 v10 |>.set 49 v11 |>.set 50 v12 |>.set 51 v13))) from by kernel_rfl]
    exact (f75_r7_eq (d := gf ((FF 81 d) |>.set 37 v1 |>.set 38 v2 |>.set 39 (d 9) |>.set 40 v3 |>.set 41 v4 |>.set 42 v5 |>.set 43 v6 |>.set 44 v7 |>.set 45 (d 9) |>.set 46 v8 |>.set 47 v9 |>.set 48 v10 |>.set 49 v11 |>.set 50 v12 |>.set 51 v13)) call k ag_l6 sg_l6 h_l6).trans (by kernel_rfl)
noncomputable def f75_r14 (call : Handle) (k : Nat) (sg_l11 : Value → Value → Value → Value → GH → M (Value × GH)) (x5 x7 x8 x10 : Value) (H : GH) : M (Value × GH) :=
  onV ((oBin Try.prog .add 3 x8 (.int .i64 1)).filter closed) fun v1 =>
  onV ((oBin Try.prog .add 3 x10 (.int .i64 1)).filter closed) fun v2 =>
  (sg_l11 x5 x7 v1 v2 H)
theorem f75_r14_eq (call : Handle) (k : Nat) (ag_l11 : GA → GH → M (Value × GH)) (sg_l11 : Value → Value → Value → Value → GH → M (Value × GH)) (h_l11 : f75_l11_P ag_l11 sg_l11) : gCode Try.prog call k (fAt Try.f75 [1,1,1,1,1,0,1,0,0,1,0,0,1,0]) (FF 81 d) H (hBlock 3 (hSeq (gCode Try.prog call k (fAt Try.f75 [1,1,1,1,1,0,1,0,0,1,1])) (hLoop ag_l11 (hBlock 2 (hSeq (gCode Try.prog call k (fAt Try.f75 [1,1,1,1,1,1])) (hFin Try.prog Try.f75)))))) = f75_r14 call k sg_l11 (d 5) (d 7) (d 8) (d 10) H := by
  unfold f75_r14
  rw [n75_51]
  rw [s75_15]
  refine onV_c fun v1 => ?_
  rw [hBlock_n]
  rw [hSeq_n]
  rw [n75_52]
  rw [s75_16]
  refine onV_c fun v2 => ?_
  rw [hLoop_n]
  rw [show ((FF 81 d) |>.set 78 (d 8) |>.set 79 v1 |>.set 8 v1 |>.set 59 (d 10) |>.set 60 v2 |>.set 10 v2) = (FF 81 (gf ((FF 81 d) |>.set 78 (d 8) |>.set 79 v1 |>.set 8 v1 |>.set 59 (d 10) |>.set 60 v2 |>.set 10 v2))) from by kernel_rfl]
  exact (f75_l11_at (d := gf ((FF 81 d) |>.set 78 (d 8) |>.set 79 v1 |>.set 8 v1 |>.set 59 (d 10) |>.set 60 v2 |>.set 10 v2)) h_l11).trans (by kernel_rfl)
noncomputable def f75_r12 (call : Handle) (k : Nat) (sg_l11 : Value → Value → Value → Value → GH → M (Value × GH)) (x5 x7 x8 x10 : Value) (H : GH) : M (Value × GH) :=
  onV ((oBin Try.prog .add 3 x10 (.int .i64 1)).filter closed) fun v1 =>
  (sg_l11 x5 x7 x8 v1 H)
theorem f75_r12_eq (call : Handle) (k : Nat) (ag_l11 : GA → GH → M (Value × GH)) (sg_l11 : Value → Value → Value → Value → GH → M (Value × GH)) (h_l11 : f75_l11_P ag_l11 sg_l11) : gCode Try.prog call k (fAt Try.f75 [1,1,1,1,1,0,1,0,0,1,1]) (FF 81 d) H (hLoop ag_l11 (hBlock 2 (hSeq (gCode Try.prog call k (fAt Try.f75 [1,1,1,1,1,1])) (hFin Try.prog Try.f75)))) = f75_r12 call k sg_l11 (d 5) (d 7) (d 8) (d 10) H := by
  unfold f75_r12
  rw [n75_52]
  rw [s75_17]
  refine onV_c fun v1 => ?_
  rw [hLoop_n]
  rw [show ((FF 81 d) |>.set 59 (d 10) |>.set 60 v1 |>.set 10 v1) = (FF 81 (gf ((FF 81 d) |>.set 59 (d 10) |>.set 60 v1 |>.set 10 v1))) from by kernel_rfl]
  exact (f75_l11_at (d := gf ((FF 81 d) |>.set 59 (d 10) |>.set 60 v1 |>.set 10 v1)) h_l11).trans (by kernel_rfl)
noncomputable def f75_r13 (call : Handle) (k : Nat) (sg_l11 : Value → Value → Value → Value → GH → M (Value × GH)) (x5 x7 x8 x10 : Value) (H : GH) : M (Value × GH) :=
  onV (oFieldAddr Try.prog 62 x7 3) fun v1 =>
  onV (gLoad Try.prog 60 v1 H) fun v2 =>
  onV (oIndexAddr Try.prog 60 v2 x10) fun v3 =>
  onV (oFieldAddr Try.prog 157 v3 0) fun v4 =>
  onV (oFieldAddr Try.prog 29 v4 1) fun v5 =>
  onV (gLoad Try.prog 3 v5 H) fun v6 =>
  onV (oFieldAddr Try.prog 62 x7 3) fun v7 =>
  onV (gLoad Try.prog 60 v7 H) fun v8 =>
  onV (oIndexAddr Try.prog 60 v8 x10) fun v9 =>
  onV (oFieldAddr Try.prog 157 v9 0) fun v10 =>
  onV (oFieldAddr Try.prog 29 v10 0) fun v11 =>
  onV (gLoad Try.prog 5 v11 H) fun v12 =>
  onV (oIndexAddr Try.prog 160 x5 v12) fun v13 =>
  onV (gLoad Try.prog 3 v13 H) fun v14 =>
  onV ((oBin Try.prog .geq 3 v6 v14).filter closed) fun v15 =>
  onBool (asB v15)
  ((f75_r14 call k (sg_l11) x5 x7 x8 x10 H))
  ((f75_r12 call k (sg_l11) x5 x7 x8 x10 H))
theorem f75_r13_eq (call : Handle) (k : Nat) (ag_l11 : GA → GH → M (Value × GH)) (sg_l11 : Value → Value → Value → Value → GH → M (Value × GH)) (h_l11 : f75_l11_P ag_l11 sg_l11) : gCode Try.prog call k (fAt Try.f75 [1,1,1,1,1,0,1,0,0,1,0,0,0]) (FF 81 d) H (hSeq (gCode Try.prog call k (fAt Try.f75 [1,1,1,1,1,0,1,0,0,1,0,0,1])) (hBlock 3 (hSeq (gCode Try.prog call k (fAt Try.f75 [1,1,1,1,1,0,1,0,0,1,1])) (hLoop ag_l11 (hBlock 2 (hSeq (gCode Try.prog call k (fAt Try.f75 [1,1,1,1,1,1])) (hFin Try.prog Try.f75))))))) = f75_r13 call k sg_l11 (d 5) (d 7) (d 8) (d 10) H := by
  unfold f75_r13
  rw [n75_48]
  rw [s75_14]
  refine onV_c fun v1 => ?_
  refine onV_c fun v2 => ?_
  refine onV_c fun v3 => ?_
  refine onV_c fun v4 => ?_
  refine onV_c fun v5 => ?_
  refine onV_c fun v6 => ?_
  refine onV_c fun v7 => ?_
  refine onV_c fun v8 => ?_
  refine onV_c fun v9 => ?_
  refine onV_c fun v10 => ?_
  refine onV_c fun v11 => ?_
  refine onV_c fun v12 => ?_
  refine onV_c fun v13 => ?_
  refine onV_c fun v14 => ?_
  refine onV_c fun v15 => ?_
  rw [hSeq_n]
  rw [n75_49]
  refine onBool_cc (by kernel_rfl) ?_ ?_
  · rw [show ((FF 81 d) |>.set 61 v1 |>.set 62 v2 |>.set 63 (d 10) |>.set 64 v3 |>.set 65 v4 |>.set 66 v5 |>.set 67 v6 |>.set 68 v7 |>.set 69 v8 |>.set 70 (d 10) |>.set 71 v9 |>.set 72 v10 |>.set 73 v11 |>.set 74 v12 |>.set 75 v13 |>.set 76 v14 |>.set 77 v15) = (FF 81 (gf ((FF 81 d) |>.set 61 v1 |>.set 62 v2 |>.set 63 (d 10) |>.set 64 v3 |>.set 65 v4 |>.set 66 v5 |>.set 67 v6 |>.set 68 v7 |>.set 69 v8 |>.set 70 (d 10) |>.set 71 v9 |>.set 72 v10 |>.set 73 v11 |>.set 74 v12 |>.set 75 v13 |>.set 76 v14 |>.set 77 v15))) from by kernel_rfl]
    exact (f75_r14_eq (d := gf ((FF 81 d) |>.set 61 v1 |>.set 62 v2 |>.set 63 (d 10) |>.set 64 v3 |>.set 65 v4 |>.set 66 v5 |>.set 67 v6 |>.set 68 v7 |>.set 69 v8 |>.set 70 (d 10) |>.set 71 v9 |>.set 72 v10 |>.set 73 v11 |>.set 74 v12 |>.set 75 v13 |>.set 76 v14 |>.set 77 v15)) call k ag_l11 sg_l11 h_l11).trans (by kernel_rfl)
  · rw [n75_50]
    rw [hBlock_n]
    rw [hSeq_n]
    rw [show ((FF 81 d) |>.set 61 v1 |>.set 62 v2 |>.set 63 (d 10) |>.set 64 v3 |>.set 65 v4 |>.set 66 v5 |>.set 67 v6 |>.set 68 v7 |>.set 69 v8 |>.set 70 (d 10) |>.set 71 v9 |>.set 72 v10 |>.set 73 v11 |>.set 74 v12 |>.set 75 v13 |>.set 76 v14 |>.set 77 v15) = (FF 81 (gf ((FF 81 d) |>.set 61 v1 |>.set 62 v2 |>.set 63 (d 10) |>.set 64 v3 |>.set 65 v4 |>.set 66 v5 |>.set 67 v6 |>.set 68 v7 |>.set 69 v8 |>.set 70 (d 10) |>.set 71 v9 |>.set 72 v10 |>.set 73 v11 |>.set 74 v12 |>.set 75 v13 |>.set 76 v14 |>.set 77 v15))) from by kernel_rfl]
    exact (f75_r12_eq (d := gf ((FF 81 d) |>.set 61 v1 |>.set 62 v2 |>.set 63 (d 10) |>.set 64 v3 |>.set 65 v4 |>.set 66 v5 |>.set 67 v6 |>.set 68 v7 |>.set 69 v8 |>.set 70 (d 10) |>.set 71 v9 |>.set 72 v10 |>.set 73 v11 |>.set 74 v12 |>.set 75 v13 |>.set 76 v14 |>.set 77 v15)) call k ag_l11 sg_l11 h_l11).trans (by kernel_rfl)
noncomputable def f75_l11b (call : Handle) (k : Nat) (sg_l11 : Value → Value → Value → Value → GH → M (Value × GH)) (x5 x7 x8 x10 : Value) (H : GH) : M (Value × GH) :=
  onV (oFieldAddr Try.prog 62 x7 3) fun v1 =>
  onV (gLoad Try.prog 60 v1 H) fun v2 =>
  onV (oLen Try.prog 60 v2) fun v3 =>
  onV ((oBin Try.prog .lss 3 x10 v3).filter closed) fun v4 =>
  onBool (asB v4)
  ((f75_r13 call k (sg_l11) x5 x7 x8 x10 H))
  (some [(x8, H)])
theorem f75_l11b_eq (call : Handle) (k : Nat) (ag_l11 : GA → GH → M (Value × GH)) (sg_l11 : Value → Value → Value → Value → GH → M (Value × GH)) (h_l11 : f75_l11_P ag_l11 sg_l11) : gCode Try.prog call k (fAt Try.f75 [1,1,1,1,1,0,1,0,0]) (FF 81 d) H (hLoop ag_l11 (hBlock 2 (hSeq (gCode Try.prog call k (fAt Try.f75 [1,1,1,1,1,1])) (hFin Try.prog Try.f75)))) = f75_l11b call k sg_l11 (d 5) (d 7) (d 8) (d 10) H := by
  unfold f75_l11b
  rw [n75_36]
  rw [n75_37]
  rw [n75_38]
  rw [s75_12]
  refine onV_c fun v1 => ?_
  refine onV_c fun v2 => ?_
  refine onV_c fun v3 => ?_
  refine onV_c fun v4 => ?_
  rw [hSeq_n]
  rw [n75_39]
  refine onBool_cc (by kernel_rfl) ?_ ?_
  · rw [n75_40]
    rw [hSeq_n]
    rw [n75_41]
    rw [n75_42]
    rw [n75_43]
    rw [show ((FF 81 d) |>.set 54 (d 10) |>.set 55 v1 |>.set 56 v2 |>.set 57 v3 |>.set 58 v4) = (FF 81 (gf ((FF 81 d) |>.set 54 (d 10) |>.set 55 v1 |>.set 56 v2 |>.set 57 v3 |>.set 58 v4))) from by kernel_rfl]
    exact (f75_r13_eq (d := gf ((FF 81 d) |>.set 54 (d 10) |>.set 55 v1 |>.set 56 v2 |>.set 57 v3 |>.set 58 v4)) call k ag_l11 sg_l11 h_l11).trans (by kernel_rfl)
  · rw [n75_44]
    rw [hSeq_e, hLoop_e, hBlock_hit]
    rw [hSeq_n]
    rw [n75_45]
    rw [n75_46]
    rw [s75_13]
    rw [hSeq_n]
    rw [n75_47]
    kernel_rfl
noncomputable def f75_l11 (call : Handle) (k : Nat) : Nat → Value → Value → Value → Value → GH → M (Value × GH)
  | 0, _, _, _, _, _ => none
  | r + 1, x5, x7, x8, x10, H => f75_l11b call k (f75_l11 call k r) x5 x7 x8 x10 H
theorem f75_l11_eq (call : Handle) (k : Nat) : ∀ (r : Nat), f75_l11_P (gLoop (gCode Try.prog call k (fAt Try.f75 [1,1,1,1,1,0,1,0,0])) (hBlock 2 (hSeq (gCode Try.prog call k (fAt Try.f75 [1,1,1,1,1,1])) (hFin Try.prog Try.f75))) r) (f75_l11 call k r) := by
  intro r
  induction r with
  | zero => unfold f75_l11_P; intros; rfl
  | succ r ih => unfold f75_l11_P; intros; exact f75_l11b_eq call k _ _ ih
noncomputable def f75_r10 (call : Handle) (k : Nat) (x5 x7 x8 : Value) (H : GH) : M (Value × GH) :=
  (f75_l11 call k k x5 x7 x8 (.int .i64 0) H)
theorem f75_r10_eq (call : Handle) (k : Nat) : gCode Try.prog call k (fAt Try.f75 [1,1,1,1,1]) (FF 81 d) H (hFin Try.prog Try.f75) = f75_r10 call k (d 5) (d 7) (d 8) H := by
  unfold f75_r10
  rw [n75_29]
  rw [n75_30]
  rw [n75_31]
  rw [s75_8]
  rw [hSeq_n]
  rw [n75_32]
  rw [n75_33]
  rw [show ((FF 81 d) |>.set 10 (.int .i64 0)) = (FF 81 (gf ((FF 81 d) |>.set 10 (.int .i64 0)))) from by kernel_rfl]
  exact (f75_l11_at (d := gf ((FF 81 d) |>.set 10 (.int .i64 0))) (f75_l11_eq call k k)).trans (by kernel_rfl)
noncomputable def f75_l6b (call : Handle) (k : Nat) (sg_l6 : Value → Value → Value → Value → GH → M (Value × GH)) (x5 x7 x8 x9 : Value) (H : GH) : M (Value × GH) :=
  onV (oFieldAddr Try.prog 62 x7 2) fun v1 =>
  onV (gLoad Try.prog 26 v1 H) fun v2 =>
  onV (oLen Try.prog 26 v2) fun v3 =>
  onV ((oBin Try.prog .lss 3 x9 v3).filter closed) fun v4 =>
  onBool (asB v4)
  ((f75_r8 call k (sg_l6) x5 x7 x8 x9 H))
  ((f75_r10 call k x5 x7 x8 H))
theorem f75_l6b_eq (call : Handle) (k : Nat) (ag_l6 : GA → GH → M (Value × GH)) (sg_l6 : Value → Value → Value → Value → GH → M (Value × GH)) (h_l6 : f75_l6_P ag_l6 sg_l6) : gCode Try.prog call k (fAt Try.f75 [1,1,1,1,0,1,0,0]) (FF 81 d) H (hLoop ag_l6 (hBlock 0 (hSeq (gCode Try.prog call k (fAt Try.f75 [1,1,1,1,1])) (hFin Try.prog Try.f75)))) = f75_l6b call k sg_l6 (d 5) (d 7) (d 8) (d 9) H := by
  unfold f75_l6b
  rw [n75_17]
  rw [n75_18]
  rw [n75_19]
  rw [s75_6]
  refine onV_c fun v1 => ?_
  refine onV_c fun v2 => ?_
  refine onV_c fun v3 => ?_
  refine onV_c fun v4 => ?_
  rw [hSeq_n]
  rw [n75_20]
  refine onBool_cc (by kernel_rfl) ?_ ?_
  · rw [n75_21]
    rw [hSeq_n]
    rw [n75_22]
    rw [n75_23]
    rw [n75_24]
    rw [show ((FF 81 d) |>.set 30 (d 9) |>.set 31 v1 |>.set 32 v2 |>.set 33 v3 |>.set 34 v4) = (FF 81 (gf ((FF 81 d) |>.set 30 (d 9) |>.set 31 v1 |>.set 32 v2 |>.set 33 v3 |>.set 34 v4))) from by kernel_rfl]
    exact (f75_r8_eq (d := gf ((FF 81 d) |>.set 30 (d 9) |>.set 31 v1 |>.set 32 v2 |>.set 33 v3 |>.set 34 v4)) call k ag_l6 sg_l6 h_l6).trans (by kernel_rfl)
  · rw [n75_25]
    rw [hSeq_e, hLoop_e, hBlock_hit]
    rw [hSeq_n]
    rw [show ((FF 81 d) |>.set 30 (d 9) |>.set 31 v1 |>.set 32 v2 |>.set 33 v3 |>.set 34 v4) = (FF 81 (gf ((FF 81 d) |>.set 30 (d 9) |>.set 31 v1 |>.set 32 v2 |>.set 33 v3 |>.set 34 v4))) from by kernel_rfl]
    exact (f75_r10_eq (d := gf ((FF 81 d) |>.set 30 (d 9) |>.set 31 v1 |>.set 32 v2 |>.set 33 v3 |>.set 34 v4)) call k).trans (by kernel_rfl)
noncomputable def f75_l6 (call : Handle) (k : Nat) : Nat → Value → Value → Value → Value → GH → M (Value × GH)
  | 0, _, _, _, _, _ => none
  | r + 1, x5, x7, x8, x9, H => f75_l6b call k (f75_l6 call k r) x5 x7 x8 x9 H
theorem f75_l6_eq (call : Handle) (k : Nat) : ∀ (r : Nat), f75_l6_P (gLoop (gCode Try.prog call k (fAt Try.f75 [1,1,1,1,0,1,0,0])) (hBlock 0 (hSeq (gCode Try.prog call k (fAt Try.f75 [1,1,1,1,1])) (hFin Try.prog Try.f75))) r) (f75_l6 call k r) := by
  intro r
  induction r with
  | zero => unfold f75_l6_P; intros; rfl
  | succ r ih => unfold f75_l6_P; intros; exact f75_l6b_eq call k _ _ ih
noncomputable def f75_r5 (call : Handle) (k : Nat) (x5 x7 x8 : Value) (H : GH) : M (Value × GH) :=
  (f75_l6 call k k x5 x7 x8 (.int .i64 0) H)
theorem f75_r5_eq (call : Handle) (k : Nat) : gCode Try.prog call k (fAt Try.f75 [1,1,1,1]) (FF 81 d) H (hFin Try.prog Try.f75) = f75_r5 call k (d 5) (d 7) (d 8) H := by
  unfold f75_r5
  rw [n75_12]
  rw [n75_13]
  rw [n75_14]
  rw [s75_5]
  rw [hSeq_n]
  rw [n75_15]
  rw [n75_16]
  rw [show ((FF 81 d) |>.set 9 (.int .i64 0)) = (FF 81 (gf ((FF 81 d) |>.set 9 (.int .i64 0)))) from by kernel_rfl]
  exact (f75_l6_at (d := gf ((FF 81 d) |>.set 9 (.int .i64 0))) (f75_l6_eq call k k)).trans (by kernel_rfl)
noncomputable def f75_r3 (call : Handle) (k : Nat) (x4 x5 x7 x8 : Value) (H : GH) : M (Value × GH) :=
  onV (oFieldAddr Try.prog 29 x4 1) fun v1 =>
  onV (gLoad Try.prog 3 v1 H) fun v2 =>
  onV (oFieldAddr Try.prog 29 x4 0) fun v3 =>
  onV (gLoad Try.prog 5 v3 H) fun v4 =>
  onV (oIndexAddr Try.prog 160 x5 v4) fun v5 =>
  onV (gLoad Try.prog 3 v5 H) fun v6 =>
  onV ((oBin Try.prog .gtr 3 v2 v6).filter closed) fun v7 =>
  onBool (asB v7)
  (onV ((oBin Try.prog .add 3 x8 (.int .i64 1)).filter closed) fun v8 =>
  (f75_r5 call k x5 x7 v8 H))
  ((f75_r5 call k x5 x7 x8 H))
theorem f75_r3_eq (call : Handle) (k : Nat) : gCode Try.prog call k (fAt Try.f75 [1,1,1,0,0]) (FF 81 d) H (hSeq (gCode Try.prog call k (fAt Try.f75 [1,1,1,0,1])) (hSeq (gCode Try.prog call k (fAt Try.f75 [1,1,1,1])) (hFin Try.prog Try.f75))) = f75_r3 call k (d 4) (d 5) (d 7) (d 8) H := by
  unfold f75_r3
  rw [n75_8]
  rw [s75_3]
  refine onV_c fun v1 => ?_
  refine onV_c fun v2 => ?_
  refine onV_c fun v3 => ?_
  refine onV_c fun v4 => ?_
  refine onV_c fun v5 => ?_
  refine onV_c fun v6 => ?_
  refine onV_c fun v7 => ?_
  rw [hSeq_n]
  rw [n75_9]
  refine onBool_cc (by kernel_rfl) ?_ ?_
  · rw [n75_10]
    rw [s75_4]
    refine onV_c fun v8 => ?_
    rw [hSeq_n]
    rw [show ((FF 81 d) |>.set 21 v1 |>.set 22 v2 |>.set 23 v3 |>.set 24 v4 |>.set 25 v5 |>.set 26 v6 |>.set 27 v7 |>.set 28 (d 8) |>.set 29 v8 |>.set 8 v8) = (FF 81 (gf ((FF 81 d) |>.set 21 v1 |>.set 22 v2 |>.set 23 v3 |>.set 24 v4 |>.set 25 v5 |>.set 26 v6 |>.set 27 v7 |>.set 28 (d 8) |>.set 29 v8 |>.set 8 v8))) from by kernel_rfl]
    exact (f75_r5_eq (d := gf ((FF 81 d) |>.set 21 v1 |>.set 22 v2 |>.set 23 v3 |>.set 24 v4 |>.set 25 v5 |>.set 26 v6 |>.set 27 v7 |>.set 28 (d 8) |>.set 29 v8 |>.set 8 v8)) call k).trans (by kernel_rfl)
  · rw [n75_11]
    rw [hSeq_n]
    rw [show ((FF 81 d) |>.set 21 v1 |>.set 22 v2 |>.set 23 v3 |>.set 24 v4 |>.set 25 v5 |>.set 26 v6 |>.set 27 v7) = (FF 81 (gf ((FF 81 d) |>.set 21 v1 |>.set 22 v2 |>.set 23 v3 |>.set 24 v4 |>.set 25 v5 |>.set 26 v6 |>.set 27 v7))) from by kernel_rfl]
    exact (f75_r5_eq (d := gf ((FF 81 d) |>.set 21 v1 |>.set 22 v2 |>.set 23 v3 |>.set 24 v4 |>.set 25 v5 |>.set 26 v6 |>.set 27 v7)) call k).trans (by kernel_rfl)
noncomputable def f75_r1 (call : Handle) (k : Nat) (x0 x4 x5 : Value) (H : GH) : M (Value × GH) :=
  onV (oFieldAddr Try.prog 29 x4 0) fun v1 =>
  onV (gLoad Try.prog 5 v1 H) fun v2 =>
  onV ((oBin Try.prog .sub 5 v2 (.int .u8 1)).filter closed) fun v3 =>
  onV (oIndexAddr Try.prog 58 x0 v3) fun v4 =>
  onV (gLoad Try.prog 59 v4 H) fun v5 =>
  onV (oFieldAddr Try.prog 29 x4 1) fun v6 =>
  onV (gLoad Try.prog 3 v6 H) fun v7 =>
  onV (oIndexAddr Try.prog 59 v5 v7) fun v8 =>
  onV (gLoad Try.prog 62 v8 H) fun v9 =>
  onH (gStore Try.prog 62 (.pointer (some ⟨H.n, 0, none⟩)) v9 (GH.push H (.row [(.int .u8 0), (.bool false), (.slice none 0 0), (.slice none 0 0)] 62 false))) fun H10 =>
  (f75_r3 call k x4 x5 (.pointer (some ⟨H.n, 0, none⟩)) (.int .i64 0) H10)
theorem f75_r1_eq (call : Handle) (k : Nat) : gCode Try.prog call k (fAt Try.f75 [1,0]) (FF 81 d) H (hSeq (gCode Try.prog call k (fAt Try.f75 [1,1])) (hFin Try.prog Try.f75)) = f75_r1 call k (d 0) (d 4) (d 5) H := by
  unfold f75_r1
  rw [n75_3]
  rw [s75_1]
  refine onV_c fun v1 => ?_
  refine onV_c fun v2 => ?_
  refine onV_c fun v3 => ?_
  refine onV_c fun v4 => ?_
  refine onV_c fun v5 => ?_
  refine onV_c fun v6 => ?_
  refine onV_c fun v7 => ?_
  refine onV_c fun v8 => ?_
  refine onV_c fun v9 => ?_
  refine onH_c fun H10 => ?_
  rw [hSeq_n]
  rw [n75_4]
  rw [n75_5]
  rw [s75_2]
  rw [hSeq_n]
  rw [n75_6]
  rw [n75_7]
  rw [show ((FF 81 d) |>.set 11 (d 0) |>.set 12 v1 |>.set 13 v2 |>.set 14 v3 |>.set 15 v4 |>.set 16 v5 |>.set 17 v6 |>.set 18 v7 |>.set 19 v8 |>.set 20 v9 |>.set 7 (.pointer (some ⟨H.n, 0, none⟩)) |>.set 8 (.int .i64 0)) = (FF 81 (gf ((FF 81 d) |>.set 11 (d 0) |>.set 12 v1 |>.set 13 v2 |>.set 14 v3 |>.set 15 v4 |>.set 16 v5 |>.set 17 v6 |>.set 18 v7 |>.set 19 v8 |>.set 20 v9 |>.set 7 (.pointer (some ⟨H.n, 0, none⟩)) |>.set 8 (.int .i64 0)))) from by kernel_rfl]
  exact (f75_r3_eq (d := gf ((FF 81 d) |>.set 11 (d 0) |>.set 12 v1 |>.set 13 v2 |>.set 14 v3 |>.set 15 v4 |>.set 16 v5 |>.set 17 v6 |>.set 18 v7 |>.set 19 v8 |>.set 20 v9 |>.set 7 (.pointer (some ⟨H.n, 0, none⟩)) |>.set 8 (.int .i64 0))) call k).trans (by kernel_rfl)
noncomputable def f75_sh (call : Handle) (k : Nat) (p0 p1 p2 : Value) (H : GH) : M (Value × GH) :=
  (f75_r1 call k p0 (.pointer (some ⟨H.n, 0, none⟩)) (.pointer (some ⟨(GH.push H (.row (Value.cells p1).toList 29 false)).n, 0, none⟩)) (GH.push (GH.push H (.row (Value.cells p1).toList 29 false)) (.row (Value.cells p2).toList 160 false)))
theorem f75_run (call : Handle) (k : Nat) (p0 p1 p2 : Value) (H : GH) : gCode Try.prog call k (fAt Try.f75 []) ((FF 81 fun _ => undef) |>.set 0 p0 |>.set 1 p1 |>.set 2 p2) H (hFin Try.prog Try.f75) = f75_sh call k p0 p1 p2 H := by
  unfold f75_sh
  rw [n75_0]
  rw [n75_1]
  rw [s75_0]
  rw [hSeq_n]
  rw [n75_2]
  rw [show ((FF 81 fun _ => undef) |>.set 0 p0 |>.set 1 p1 |>.set 2 p2 |>.set 4 (.pointer (some ⟨H.n, 0, none⟩)) |>.set 5 (.pointer (some ⟨(GH.push H (.row (Value.cells p1).toList 29 false)).n, 0, none⟩)) |>.set 6 (.int .i64 0)) = (FF 81 (gf ((FF 81 fun _ => undef) |>.set 0 p0 |>.set 1 p1 |>.set 2 p2 |>.set 4 (.pointer (some ⟨H.n, 0, none⟩)) |>.set 5 (.pointer (some ⟨(GH.push H (.row (Value.cells p1).toList 29 false)).n, 0, none⟩)) |>.set 6 (.int .i64 0)))) from by kernel_rfl]
  exact (f75_r1_eq (d := gf ((FF 81 fun _ => undef) |>.set 0 p0 |>.set 1 p1 |>.set 2 p2 |>.set 4 (.pointer (some ⟨H.n, 0, none⟩)) |>.set 5 (.pointer (some ⟨(GH.push H (.row (Value.cells p1).toList 29 false)).n, 0, none⟩)) |>.set 6 (.int .i64 0))) call k).trans (by kernel_rfl)
theorem f75_eq (call : Handle) (k : Nat) (p0 p1 p2 : Value) (H : GH) : gFunc Try.prog call k Try.f75 [p0, p1, p2] H = f75_sh call k p0 p1 p2 H :=
  Eq.trans (by kernel_rfl) (f75_run call k p0 p1 p2 H)
end
section
variable {β : Type} {call : Handle} {k : Nat} {a : GA} {K : Kont β} {K' : GA → GH → M β}
variable {d : Nat → Value} {xg : Value}
variable {p0 : Value}
variable {H : GH}
theorem n76_0 : gCode Try.prog call k (fAt Try.f76 []) a H K = gCode Try.prog call k (fAt Try.f76 [0]) a H (hSeq (gCode Try.prog call k (fAt Try.f76 [1])) K) := at_seq (by kernel_rfl)
theorem n76_1 : gCode Try.prog call k (fAt Try.f76 [0]) a H K = gOps Try.prog 0 call (opsAt (fAt Try.f76 [0])) ((opsAt (fAt Try.f76 [0])).drop 0) a H (K .normal) := at_region (by kernel_rfl)
theorem n76_2 : gCode Try.prog call k (fAt Try.f76 [1]) a H K = gCode Try.prog call k (fAt Try.f76 [1,0]) a H (hSeq (gCode Try.prog call k (fAt Try.f76 [1,1])) K) := at_seq (by kernel_rfl)
theorem n76_3 : gCode Try.prog call k (fAt Try.f76 [1,0]) a H K = gOps Try.prog 0 call (opsAt (fAt Try.f76 [1,0])) ((opsAt (fAt Try.f76 [1,0])).drop 0) a H (K .normal) := at_region (by kernel_rfl)
theorem n76_4 : gCode Try.prog call k (fAt Try.f76 [1,1]) a H K = K .ret a H := at_ret (by kernel_rfl)
theorem s76_0 : gOps Try.prog 0 call (opsAt (fAt Try.f76 [0])) ((opsAt (fAt Try.f76 [0])).drop 0) ((FF 9 fun _ => undef) |>.set 0 p0) H K' =
  K' ((FF 9 fun _ => undef) |>.set 0 p0 |>.set 2 (.slice none 0 0)) H := by kernel_rfl
theorem s76_1 : gOps Try.prog 0 call (opsAt (fAt Try.f76 [1,0])) ((opsAt (fAt Try.f76 [1,0])).drop 0) ((FF 9 fun _ => undef) |>.set 0 p0 |>.set 2 (.slice none 0 0)) H K' =
  onV (oLen Try.prog 26 p0) fun v1 =>
  onV (oLen Try.prog 26 p0) fun v2 =>
  onV (oSlice Try.prog 26 p0 none (some v1) (some v2)) fun v3 =>
  K' ((FF 9 fun _ => undef) |>.set 0 p0 |>.set 2 (.slice none 0 0) |>.set 3 p0 |>.set 4 p0 |>.set 5 v1 |>.set 6 p0 |>.set 7 v2 |>.set 8 v3 |>.set 2 v3) H := by kernel_rfl
noncomputable def f76_sh (call : Handle) (k : Nat) (p0 : Value) (H : GH) : M (Value × GH) :=
  onV (oLen Try.prog 26 p0) fun v1 =>
  onV (oLen Try.prog 26 p0) fun v2 =>
  onV (oSlice Try.prog 26 p0 none (some v1) (some v2)) fun v3 =>
  some [(v3, H)]
theorem f76_run (call : Handle) (k : Nat) (p0 : Value) (H : GH) : gCode Try.prog call k (fAt Try.f76 []) ((FF 9 fun _ => undef) |>.set 0 p0) H (hFin Try.prog Try.f76) = f76_sh call k p0 H := by
  unfold f76_sh
  rw [n76_0]
  rw [n76_1]
  rw [s76_0]
  rw [hSeq_n]
  rw [n76_2]
  rw [n76_3]
  rw [s76_1]
  refine onV_c fun v1 => ?_
  refine onV_c fun v2 => ?_
  refine onV_c fun v3 => ?_
  rw [hSeq_n]
  rw [n76_4]
  kernel_rfl
theorem f76_eq (call : Handle) (k : Nat) (p0 : Value) (H : GH) : gFunc Try.prog call k Try.f76 [p0] H = f76_sh call k p0 H :=
  Eq.trans (by kernel_rfl) (f76_run call k p0 H)
end
section
variable {β : Type} {call : Handle} {k : Nat} {a : GA} {K : Kont β} {K' : GA → GH → M β}
variable {d : Nat → Value} {xg : Value}
variable {p0 : Value}
variable {v1 v2 v3 v4 : Value}
variable {H H4 H5 : GH}
theorem n77_0 : gCode Try.prog call k (fAt Try.f77 []) a H K = gCode Try.prog call k (fAt Try.f77 [0]) a H (hSeq (gCode Try.prog call k (fAt Try.f77 [1])) K) := at_seq (by kernel_rfl)
theorem n77_1 : gCode Try.prog call k (fAt Try.f77 [0]) a H K = gOps Try.prog 0 call (opsAt (fAt Try.f77 [0])) ((opsAt (fAt Try.f77 [0])).drop 0) a H (K .normal) := at_region (by kernel_rfl)
theorem n77_2 : gCode Try.prog call k (fAt Try.f77 [1]) a H K = gCode Try.prog call k (fAt Try.f77 [1,0]) a H K := at_scope (by kernel_rfl)
theorem n77_3 : gCode Try.prog call k (fAt Try.f77 [1,0]) a H K = gCode Try.prog call k (fAt Try.f77 [1,0,0]) a H (hSeq (gCode Try.prog call k (fAt Try.f77 [1,0,1])) K) := at_seq (by kernel_rfl)
theorem n77_4 : gCode Try.prog call k (fAt Try.f77 [1,0,0]) a H K = gOps Try.prog 0 call (opsAt (fAt Try.f77 [1,0,0])) ((opsAt (fAt Try.f77 [1,0,0])).drop 0) a H (K .normal) := at_region (by kernel_rfl)
theorem n77_5 : gCode Try.prog call k (fAt Try.f77 [1,0,1]) a H K = gCode Try.prog call k (fAt Try.f77 [1,0,1,0]) a H (hSeq (gCode Try.prog call k (fAt Try.f77 [1,0,1,1])) K) := at_seq (by kernel_rfl)
theorem n77_6 : gCode Try.prog call k (fAt Try.f77 [1,0,1,0]) a H K = gOps Try.prog 0 call (opsAt (fAt Try.f77 [1,0,1,0])) ((opsAt (fAt Try.f77 [1,0,1,0])).drop 0) a H (K .normal) := at_region (by kernel_rfl)
theorem n77_7 : gCode Try.prog call k (fAt Try.f77 [1,0,1,1]) a H K = gCode Try.prog call k (fAt Try.f77 [1,0,1,1,0]) a H (hSeq (gCode Try.prog call k (fAt Try.f77 [1,0,1,1,1])) K) := at_seq (by kernel_rfl)
theorem n77_8 : gCode Try.prog call k (fAt Try.f77 [1,0,1,1,0]) a H K = gOps Try.prog 0 call (opsAt (fAt Try.f77 [1,0,1,1,0])) ((opsAt (fAt Try.f77 [1,0,1,1,0])).drop 0) a H (K .normal) := at_region (by kernel_rfl)
theorem n77_9 : gCode Try.prog call k (fAt Try.f77 [1,0,1,1,1]) a H K = gCode Try.prog call k (fAt Try.f77 [1,0,1,1,1,0]) a H (hSeq (gCode Try.prog call k (fAt Try.f77 [1,0,1,1,1,1])) K) := at_seq (by kernel_rfl)
theorem n77_10 : gCode Try.prog call k (fAt Try.f77 [1,0,1,1,1,0]) a H K = K .normal a H := at_label (n := 0) (by kernel_rfl)
theorem n77_11 : gCode Try.prog call k (fAt Try.f77 [1,0,1,1,1,1]) a H K = gCode Try.prog call k (fAt Try.f77 [1,0,1,1,1,1,0]) a H (hBlock 0 K) := at_block (by kernel_rfl)
theorem n77_12 : gCode Try.prog call k (fAt Try.f77 [1,0,1,1,1,1,0]) a H K = gLoop (gCode Try.prog call k (fAt Try.f77 [1,0,1,1,1,1,0,0])) K k a H := at_loop (by kernel_rfl)
theorem n77_13 : gCode Try.prog call k (fAt Try.f77 [1,0,1,1,1,1,0,0]) a H K = gCode Try.prog call k (fAt Try.f77 [1,0,1,1,1,1,0,0,0]) a H (hBlock 1 K) := at_block (by kernel_rfl)
theorem n77_14 : gCode Try.prog call k (fAt Try.f77 [1,0,1,1,1,1,0,0,0]) a H K = gCode Try.prog call k (fAt Try.f77 [1,0,1,1,1,1,0,0,0,0]) a H (hSeq (gCode Try.prog call k (fAt Try.f77 [1,0,1,1,1,1,0,0,0,1])) K) := at_seq (by kernel_rfl)
theorem n77_15 : gCode Try.prog call k (fAt Try.f77 [1,0,1,1,1,1,0,0,0,0]) a H K = gCode Try.prog call k (fAt Try.f77 [1,0,1,1,1,1,0,0,0,0,0]) a H (hSeq (gCode Try.prog call k (fAt Try.f77 [1,0,1,1,1,1,0,0,0,0,1])) K) := at_seq (by kernel_rfl)
theorem n77_16 : gCode Try.prog call k (fAt Try.f77 [1,0,1,1,1,1,0,0,0,0,0]) a H K = gOps Try.prog 0 call (opsAt (fAt Try.f77 [1,0,1,1,1,1,0,0,0,0,0])) ((opsAt (fAt Try.f77 [1,0,1,1,1,1,0,0,0,0,0])).drop 0) a H (K .normal) := at_region (by kernel_rfl)
theorem n77_17 : gCode Try.prog call k (fAt Try.f77 [1,0,1,1,1,1,0,0,0,0,1]) a H K = gCode Try.prog call k (fAt Try.f77 [1,0,1,1,1,1,0,0,0,0,1,0]) a H (hBlock 2 K) := at_block (by kernel_rfl)
theorem n77_18 : gCode Try.prog call k (fAt Try.f77 [1,0,1,1,1,1,0,0,0,0,1,0]) a H K = gLoop (gCode Try.prog call k (fAt Try.f77 [1,0,1,1,1,1,0,0,0,0,1,0,0])) K k a H := at_loop (by kernel_rfl)
theorem n77_19 : gCode Try.prog call k (fAt Try.f77 [1,0,1,1,1,1,0,0,0,0,1,0,0]) a H K = gCode Try.prog call k (fAt Try.f77 [1,0,1,1,1,1,0,0,0,0,1,0,0,0]) a H (hSeq (gCode Try.prog call k (fAt Try.f77 [1,0,1,1,1,1,0,0,0,0,1,0,0,1])) K) := at_seq (by kernel_rfl)
theorem n77_20 : gCode Try.prog call k (fAt Try.f77 [1,0,1,1,1,1,0,0,0,0,1,0,0,0]) a H K = gOps Try.prog 0 call (opsAt (fAt Try.f77 [1,0,1,1,1,1,0,0,0,0,1,0,0,0])) ((opsAt (fAt Try.f77 [1,0,1,1,1,1,0,0,0,0,1,0,0,0])).drop 0) a H (K .normal) := at_region (by kernel_rfl)
theorem n77_21 : gCode Try.prog call k (fAt Try.f77 [1,0,1,1,1,1,0,0,0,0,1,0,0,1]) a H K = gCode Try.prog call k (fAt Try.f77 [1,0,1,1,1,1,0,0,0,0,1,0,0,1,0]) a H (hSeq (gCode Try.prog call k (fAt Try.f77 [1,0,1,1,1,1,0,0,0,0,1,0,0,1,1])) K) := at_seq (by kernel_rfl)
theorem n77_22 : gCode Try.prog call k (fAt Try.f77 [1,0,1,1,1,1,0,0,0,0,1,0,0,1,0]) a H K = onBool (asB (GA.eval a (.tmp 17))) (gCode Try.prog call k (fAt Try.f77 [1,0,1,1,1,1,0,0,0,0,1,0,0,1,0,0]) a H K) (gCode Try.prog call k (fAt Try.f77 [1,0,1,1,1,1,0,0,0,0,1,0,0,1,0,1]) a H K) := at_cond (by kernel_rfl)
theorem n77_23 : gCode Try.prog call k (fAt Try.f77 [1,0,1,1,1,1,0,0,0,0,1,0,0,1,0,0]) a H K = K .normal a H := at_skip (by kernel_rfl)
theorem n77_24 : gCode Try.prog call k (fAt Try.f77 [1,0,1,1,1,1,0,0,0,0,1,0,0,1,1]) a H K = gCode Try.prog call k (fAt Try.f77 [1,0,1,1,1,1,0,0,0,0,1,0,0,1,1,0]) a H (hSeq (gCode Try.prog call k (fAt Try.f77 [1,0,1,1,1,1,0,0,0,0,1,0,0,1,1,1])) K) := at_seq (by kernel_rfl)
theorem n77_25 : gCode Try.prog call k (fAt Try.f77 [1,0,1,1,1,1,0,0,0,0,1,0,0,1,1,0]) a H K = gCode Try.prog call k (fAt Try.f77 [1,0,1,1,1,1,0,0,0,0,1,0,0,1,1,0,0]) a H (hBlock 3 K) := at_block (by kernel_rfl)
theorem n77_26 : gCode Try.prog call k (fAt Try.f77 [1,0,1,1,1,1,0,0,0,0,1,0,0,1,1,0,0]) a H K = gCode Try.prog call k (fAt Try.f77 [1,0,1,1,1,1,0,0,0,0,1,0,0,1,1,0,0,0]) a H (hSeq (gCode Try.prog call k (fAt Try.f77 [1,0,1,1,1,1,0,0,0,0,1,0,0,1,1,0,0,1])) K) := at_seq (by kernel_rfl)
theorem n77_27 : gCode Try.prog call k (fAt Try.f77 [1,0,1,1,1,1,0,0,0,0,1,0,0,1,1,0,0,0]) a H K = gOps Try.prog 0 call (opsAt (fAt Try.f77 [1,0,1,1,1,1,0,0,0,0,1,0,0,1,1,0,0,0])) ((opsAt (fAt Try.f77 [1,0,1,1,1,1,0,0,0,0,1,0,0,1,1,0,0,0])).drop 0) a H (K .normal) := at_region (by kernel_rfl)
theorem n77_28 : gCode Try.prog call k (fAt Try.f77 [1,0,1,1,1,1,0,0,0,0,1,0,0,1,1,0,0,1]) a H K = gCode Try.prog call k (fAt Try.f77 [1,0,1,1,1,1,0,0,0,0,1,0,0,1,1,0,0,1,0]) a H (hSeq (gCode Try.prog call k (fAt Try.f77 [1,0,1,1,1,1,0,0,0,0,1,0,0,1,1,0,0,1,1])) K) := at_seq (by kernel_rfl)
theorem n77_29 : gCode Try.prog call k (fAt Try.f77 [1,0,1,1,1,1,0,0,0,0,1,0,0,1,0,1]) a H K = K (.exit 2) a H := at_exit (by kernel_rfl)
theorem n77_30 : gCode Try.prog call k (fAt Try.f77 [1,0,1,1,1,1,0,0,0,1]) a H K = gCode Try.prog call k (fAt Try.f77 [1,0,1,1,1,1,0,0,0,1,0]) a H (hSeq (gCode Try.prog call k (fAt Try.f77 [1,0,1,1,1,1,0,0,0,1,1])) K) := at_seq (by kernel_rfl)
theorem n77_31 : gCode Try.prog call k (fAt Try.f77 [1,0,1,1,1,1,0,0,0,1,0]) a H K = gOps Try.prog 0 call (opsAt (fAt Try.f77 [1,0,1,1,1,1,0,0,0,1,0])) ((opsAt (fAt Try.f77 [1,0,1,1,1,1,0,0,0,1,0])).drop 0) a H (K .normal) := at_region (by kernel_rfl)
theorem n77_32 : gCode Try.prog call k (fAt Try.f77 [1,0,1,1,1,1,0,0,0,1,1]) a H K = K .ret a H := at_ret (by kernel_rfl)
theorem n77_33 : gCode Try.prog call k (fAt Try.f77 [1,0,1,1,1,1,0,0,0,0,1,0,0,1,1,0,0,1,0]) a H K = gOps Try.prog 0 call (opsAt (fAt Try.f77 [1,0,1,1,1,1,0,0,0,0,1,0,0,1,1,0,0,1,0])) ((opsAt (fAt Try.f77 [1,0,1,1,1,1,0,0,0,0,1,0,0,1,1,0,0,1,0])).drop 0) a H (K .normal) := at_region (by kernel_rfl)
theorem n77_34 : gCode Try.prog call k (fAt Try.f77 [1,0,1,1,1,1,0,0,0,0,1,0,0,1,1,0,0,1,1]) a H K = gCode Try.prog call k (fAt Try.f77 [1,0,1,1,1,1,0,0,0,0,1,0,0,1,1,0,0,1,1,0]) a H (hSeq (gCode Try.prog call k (fAt Try.f77 [1,0,1,1,1,1,0,0,0,0,1,0,0,1,1,0,0,1,1,1])) K) := at_seq (by kernel_rfl)
theorem n77_35 : gCode Try.prog call k (fAt Try.f77 [1,0,1,1,1,1,0,0,0,0,1,0,0,1,1,0,0,1,1,0]) a H K = gCode Try.prog call k (fAt Try.f77 [1,0,1,1,1,1,0,0,0,0,1,0,0,1,1,0,0,1,1,0,0]) a H (hSeq (gCode Try.prog call k (fAt Try.f77 [1,0,1,1,1,1,0,0,0,0,1,0,0,1,1,0,0,1,1,0,1])) K) := at_seq (by kernel_rfl)
theorem n77_36 : gCode Try.prog call k (fAt Try.f77 [1,0,1,1,1,1,0,0,0,0,1,0,0,1,1,0,0,1,1,0,0]) a H K = gOps Try.prog 0 call (opsAt (fAt Try.f77 [1,0,1,1,1,1,0,0,0,0,1,0,0,1,1,0,0,1,1,0,0])) ((opsAt (fAt Try.f77 [1,0,1,1,1,1,0,0,0,0,1,0,0,1,1,0,0,1,1,0,0])).drop 0) a H (K .normal) := at_region (by kernel_rfl)
theorem n77_37 : gCode Try.prog call k (fAt Try.f77 [1,0,1,1,1,1,0,0,0,0,1,0,0,1,1,0,0,1,1,0,1]) a H K = onBool (asB (GA.eval a (.tmp 33))) (gCode Try.prog call k (fAt Try.f77 [1,0,1,1,1,1,0,0,0,0,1,0,0,1,1,0,0,1,1,0,1,0]) a H K) (gCode Try.prog call k (fAt Try.f77 [1,0,1,1,1,1,0,0,0,0,1,0,0,1,1,0,0,1,1,0,1,1]) a H K) := at_cond (by kernel_rfl)
theorem n77_38 : gCode Try.prog call k (fAt Try.f77 [1,0,1,1,1,1,0,0,0,0,1,0,0,1,1,0,0,1,1,0,1,0]) a H K = K (.exit 3) a H := at_exit (by kernel_rfl)
theorem n77_39 : gCode Try.prog call k (fAt Try.f77 [1,0,1,1,1,1,0,0,0,0,1,0,0,1,1,1]) a H K = gOps Try.prog 0 call (opsAt (fAt Try.f77 [1,0,1,1,1,1,0,0,0,0,1,0,0,1,1,1])) ((opsAt (fAt Try.f77 [1,0,1,1,1,1,0,0,0,0,1,0,0,1,1,1])).drop 0) a H (K .normal) := at_region (by kernel_rfl)
theorem n77_40 : gCode Try.prog call k (fAt Try.f77 [1,0,1,1,1,1,0,0,0,0,1,0,0,1,1,0,0,1,1,0,1,1]) a H K = K .normal a H := at_skip (by kernel_rfl)
theorem n77_41 : gCode Try.prog call k (fAt Try.f77 [1,0,1,1,1,1,0,0,0,0,1,0,0,1,1,0,0,1,1,1]) a H K = gCode Try.prog call k (fAt Try.f77 [1,0,1,1,1,1,0,0,0,0,1,0,0,1,1,0,0,1,1,1,0]) a H (hSeq (gCode Try.prog call k (fAt Try.f77 [1,0,1,1,1,1,0,0,0,0,1,0,0,1,1,0,0,1,1,1,1])) K) := at_seq (by kernel_rfl)
theorem n77_42 : gCode Try.prog call k (fAt Try.f77 [1,0,1,1,1,1,0,0,0,0,1,0,0,1,1,0,0,1,1,1,0]) a H K = gOps Try.prog 0 call (opsAt (fAt Try.f77 [1,0,1,1,1,1,0,0,0,0,1,0,0,1,1,0,0,1,1,1,0])) ((opsAt (fAt Try.f77 [1,0,1,1,1,1,0,0,0,0,1,0,0,1,1,0,0,1,1,1,0])).drop 0) a H (K .normal) := at_region (by kernel_rfl)
theorem n77_43 : gCode Try.prog call k (fAt Try.f77 [1,0,1,1,1,1,0,0,0,0,1,0,0,1,1,0,0,1,1,1,1]) a H K = gCode Try.prog call k (fAt Try.f77 [1,0,1,1,1,1,0,0,0,0,1,0,0,1,1,0,0,1,1,1,1,0]) a H (hSeq (gCode Try.prog call k (fAt Try.f77 [1,0,1,1,1,1,0,0,0,0,1,0,0,1,1,0,0,1,1,1,1,1])) K) := at_seq (by kernel_rfl)
theorem n77_44 : gCode Try.prog call k (fAt Try.f77 [1,0,1,1,1,1,0,0,0,0,1,0,0,1,1,0,0,1,1,1,1,0]) a H K = gCode Try.prog call k (fAt Try.f77 [1,0,1,1,1,1,0,0,0,0,1,0,0,1,1,0,0,1,1,1,1,0,0]) a H (hSeq (gCode Try.prog call k (fAt Try.f77 [1,0,1,1,1,1,0,0,0,0,1,0,0,1,1,0,0,1,1,1,1,0,1])) K) := at_seq (by kernel_rfl)
theorem n77_45 : gCode Try.prog call k (fAt Try.f77 [1,0,1,1,1,1,0,0,0,0,1,0,0,1,1,0,0,1,1,1,1,0,0]) a H K = gOps Try.prog 0 call (opsAt (fAt Try.f77 [1,0,1,1,1,1,0,0,0,0,1,0,0,1,1,0,0,1,1,1,1,0,0])) ((opsAt (fAt Try.f77 [1,0,1,1,1,1,0,0,0,0,1,0,0,1,1,0,0,1,1,1,1,0,0])).drop 0) a H (K .normal) := at_region (by kernel_rfl)
theorem n77_46 : gCode Try.prog call k (fAt Try.f77 [1,0,1,1,1,1,0,0,0,0,1,0,0,1,1,0,0,1,1,1,1,0,1]) a H K = onBool (asB (GA.eval a (.tmp 48))) (gCode Try.prog call k (fAt Try.f77 [1,0,1,1,1,1,0,0,0,0,1,0,0,1,1,0,0,1,1,1,1,0,1,0]) a H K) (gCode Try.prog call k (fAt Try.f77 [1,0,1,1,1,1,0,0,0,0,1,0,0,1,1,0,0,1,1,1,1,0,1,1]) a H K) := at_cond (by kernel_rfl)
theorem n77_47 : gCode Try.prog call k (fAt Try.f77 [1,0,1,1,1,1,0,0,0,0,1,0,0,1,1,0,0,1,1,1,1,0,1,0]) a H K = K (.exit 3) a H := at_exit (by kernel_rfl)
theorem n77_48 : gCode Try.prog call k (fAt Try.f77 [1,0,1,1,1,1,0,0,0,0,1,0,0,1,1,0,0,1,1,1,1,0,1,1]) a H K = K .normal a H := at_skip (by kernel_rfl)
theorem n77_49 : gCode Try.prog call k (fAt Try.f77 [1,0,1,1,1,1,0,0,0,0,1,0,0,1,1,0,0,1,1,1,1,1]) a H K = gCode Try.prog call k (fAt Try.f77 [1,0,1,1,1,1,0,0,0,0,1,0,0,1,1,0,0,1,1,1,1,1,0]) a H (hSeq (gCode Try.prog call k (fAt Try.f77 [1,0,1,1,1,1,0,0,0,0,1,0,0,1,1,0,0,1,1,1,1,1,1])) K) := at_seq (by kernel_rfl)
theorem n77_50 : gCode Try.prog call k (fAt Try.f77 [1,0,1,1,1,1,0,0,0,0,1,0,0,1,1,0,0,1,1,1,1,1,0]) a H K = gOps Try.prog 0 call (opsAt (fAt Try.f77 [1,0,1,1,1,1,0,0,0,0,1,0,0,1,1,0,0,1,1,1,1,1,0])) ((opsAt (fAt Try.f77 [1,0,1,1,1,1,0,0,0,0,1,0,0,1,1,0,0,1,1,1,1,1,0])).drop 0) a H (K .normal) := at_region (by kernel_rfl)
theorem n77_51 : gCode Try.prog call k (fAt Try.f77 [1,0,1,1,1,1,0,0,0,0,1,0,0,1,1,0,0,1,1,1,1,1,1]) a H K = gCode Try.prog call k (fAt Try.f77 [1,0,1,1,1,1,0,0,0,0,1,0,0,1,1,0,0,1,1,1,1,1,1,0]) a H (hSeq (gCode Try.prog call k (fAt Try.f77 [1,0,1,1,1,1,0,0,0,0,1,0,0,1,1,0,0,1,1,1,1,1,1,1])) K) := at_seq (by kernel_rfl)
theorem n77_52 : gCode Try.prog call k (fAt Try.f77 [1,0,1,1,1,1,0,0,0,0,1,0,0,1,1,0,0,1,1,1,1,1,1,0]) a H K = gOps Try.prog 0 call (opsAt (fAt Try.f77 [1,0,1,1,1,1,0,0,0,0,1,0,0,1,1,0,0,1,1,1,1,1,1,0])) ((opsAt (fAt Try.f77 [1,0,1,1,1,1,0,0,0,0,1,0,0,1,1,0,0,1,1,1,1,1,1,0])).drop 0) a H (K .normal) := at_region (by kernel_rfl)
theorem n77_53 : gCode Try.prog call k (fAt Try.f77 [1,0,1,1,1,1,0,0,0,0,1,0,0,1,1,0,0,1,1,1,1,1,1,1]) a H K = K (.exit 1) a H := at_exit (by kernel_rfl)
theorem s77_0 : gOps Try.prog 0 call (opsAt (fAt Try.f77 [0])) ((opsAt (fAt Try.f77 [0])).drop 0) ((FF 61 fun _ => undef) |>.set 0 p0) H K' =
  K' ((FF 61 fun _ => undef) |>.set 0 p0 |>.set 1 (.pointer (some ⟨H.n, 0, none⟩)) |>.set 2 (.slice none 0 0)) (GH.push H (.row (Value.cells p0).toList 58 false)) := by kernel_rfl
theorem s77_1 : gOps Try.prog 0 call (opsAt (fAt Try.f77 [1,0,0])) ((opsAt (fAt Try.f77 [1,0,0])).drop 0) ((FF 61 fun _ => undef) |>.set 0 p0 |>.set 1 (.pointer (some ⟨H.n, 0, none⟩)) |>.set 2 (.slice none 0 0)) (GH.push H (.row (Value.cells p0).toList 58 false)) K' =
  K' ((FF 61 fun _ => undef) |>.set 0 p0 |>.set 1 (.pointer (some ⟨H.n, 0, none⟩)) |>.set 2 (.slice none 0 0) |>.set 3 (.slice none 0 0)) (GH.push H (.row (Value.cells p0).toList 58 false)) := by kernel_rfl
theorem s77_2 : gOps Try.prog 0 call (opsAt (fAt Try.f77 [1,0,1,0])) ((opsAt (fAt Try.f77 [1,0,1,0])).drop 0) ((FF 61 fun _ => undef) |>.set 0 p0 |>.set 1 (.pointer (some ⟨H.n, 0, none⟩)) |>.set 2 (.slice none 0 0) |>.set 3 (.slice none 0 0)) (GH.push H (.row (Value.cells p0).toList 58 false)) K' =
  onV (gLoad Try.prog 58 (.pointer (some ⟨H.n, 0, none⟩)) (GH.push H (.row (Value.cells p0).toList 58 false))) fun v1 =>
  onV (oLen Try.prog 58 v1) fun v2 =>
  onVH (gMakeSlice Try.prog 71 v2 v2 (GH.push H (.row (Value.cells p0).toList 58 false))) fun v3 H4 =>
  onH (gStore Try.prog 71 (.pointer (some ⟨H4.n, 0, none⟩)) v3 (GH.push H4 (.row [(.slice none 0 0)] 71 false))) fun H5 =>
  K' ((FF 61 fun _ => undef) |>.set 0 p0 |>.set 1 (.pointer (some ⟨H.n, 0, none⟩)) |>.set 2 (.slice none 0 0) |>.set 3 (.slice none 0 0) |>.set 10 v1 |>.set 11 v2 |>.set 12 v3 |>.set 4 (.pointer (some ⟨H4.n, 0, none⟩))) H5 := by kernel_rfl
theorem s77_3 : gOps Try.prog 0 call (opsAt (fAt Try.f77 [1,0,1,1,0])) ((opsAt (fAt Try.f77 [1,0,1,1,0])).drop 0) ((FF 61 fun _ => undef) |>.set 0 p0 |>.set 1 (.pointer (some ⟨H.n, 0, none⟩)) |>.set 2 (.slice none 0 0) |>.set 3 (.slice none 0 0) |>.set 10 v1 |>.set 11 v2 |>.set 12 v3 |>.set 4 (.pointer (some ⟨H4.n, 0, none⟩))) H5 K' =
  onH (gStore Try.prog 113 (.pointer (some ⟨H5.n, 0, none⟩)) (.func (.func 139) #[] #[(.pointer (some ⟨H.n, 0, none⟩)), (.pointer (some ⟨H4.n, 0, none⟩))]) (GH.push H5 (.row [.nilFunc] 113 false))) fun H6 =>
  K' ((FF 61 fun _ => undef) |>.set 0 p0 |>.set 1 (.pointer (some ⟨H.n, 0, none⟩)) |>.set 2 (.slice none 0 0) |>.set 3 (.slice none 0 0) |>.set 10 v1 |>.set 11 v2 |>.set 12 v3 |>.set 4 (.pointer (some ⟨H4.n, 0, none⟩)) |>.set 13 (.func (.func 139) #[] #[(.pointer (some ⟨H.n, 0, none⟩)), (.pointer (some ⟨H4.n, 0, none⟩))]) |>.set 5 (.pointer (some ⟨H5.n, 0, none⟩))) H6 := by kernel_rfl
theorem s77_4 : gOps Try.prog 0 call (opsAt (fAt Try.f77 [1,0,1,1,1,1,0,0,0,0,0])) ((opsAt (fAt Try.f77 [1,0,1,1,1,1,0,0,0,0,0])).drop 0) (FF 61 d) H K' =
  onV (gLoad Try.prog 58 (d 1) H) fun v1 =>
  onV (oLen Try.prog 58 v1) fun v2 =>
  K' ((FF 61 d) |>.set 14 v1 |>.set 15 v2 |>.set 16 (.int .i64 0)) H := by kernel_rfl
theorem s77_5 : gOps Try.prog 0 call (opsAt (fAt Try.f77 [1,0,1,1,1,1,0,0,0,0,1,0,0,0])) ((opsAt (fAt Try.f77 [1,0,1,1,1,1,0,0,0,0,1,0,0,0])).drop 0) (FF 61 d) H K' =
  onV ((oBin Try.prog .lss 3 (d 16) (d 15)).filter closed) fun v1 =>
  K' ((FF 61 d) |>.set 17 v1) H := by kernel_rfl
theorem s77_6 : gOps Try.prog 0 call (opsAt (fAt Try.f77 [1,0,1,1,1,1,0,0,0,0,1,0,0,1,1,0,0,0])) ((opsAt (fAt Try.f77 [1,0,1,1,1,1,0,0,0,0,1,0,0,1,1,0,0,0])).drop 0) ((FF 61 d) |>.set 17 v1) H K' =
  onV (oIndexAddr Try.prog 58 (d 14) (d 16)) fun v2 =>
  onV (gLoad Try.prog 59 v2 H) fun v3 =>
  K' ((FF 61 d) |>.set 17 v1 |>.set 18 (d 16) |>.set 19 v2 |>.set 20 v3 |>.set 6 (d 16) |>.set 7 v3) H := by kernel_rfl
theorem s77_7 : gOps Try.prog 0 call (opsAt (fAt Try.f77 [1,0,1,1,1,1,0,0,0,1,0])) ((opsAt (fAt Try.f77 [1,0,1,1,1,1,0,0,0,1,0])).drop 0) ((FF 61 d) |>.set 17 v1) H K' =
  K' ((FF 61 d) |>.set 17 v1 |>.set 60 (d 3) |>.set 2 (d 3)) H := by kernel_rfl
theorem s77_8 : gOps Try.prog 0 call (opsAt (fAt Try.f77 [1,0,1,1,1,1,0,0,0,0,1,0,0,1,1,0,0,1,0])) ((opsAt (fAt Try.f77 [1,0,1,1,1,1,0,0,0,0,1,0,0,1,1,0,0,1,0])).drop 0) (FF 61 d) H K' =
  onV ((oBin Try.prog .add 3 (d 6) (.int .i64 1)).filter closed) fun v1 =>
  onV ((oConvert Try.prog 3 5 v1).filter closed) fun v2 =>
  onV (gLoad Try.prog 71 (d 4) H) fun v3 =>
  onV (oIndexAddr Try.prog 71 v3 (d 6)) fun v4 =>
  onV (gLoad Try.prog 3 v4 H) fun v5 =>
  onV (oBuild Try.prog 29 [(0, v2), (1, v5)]) fun v6 =>
  onH (gStore Try.prog 29 (.pointer (some ⟨H.n, 0, none⟩)) v6 (GH.push H (.row [(.int .u8 0), (.int .i64 0)] 29 false))) fun H7 =>
  K' ((FF 61 d) |>.set 21 (d 6) |>.set 22 v1 |>.set 23 v2 |>.set 24 v3 |>.set 25 (d 6) |>.set 26 v4 |>.set 27 v5 |>.set 28 v6 |>.set 8 (.pointer (some ⟨H.n, 0, none⟩))) H7 := by kernel_rfl
theorem s77_9 : gOps Try.prog 0 call (opsAt (fAt Try.f77 [1,0,1,1,1,1,0,0,0,0,1,0,0,1,1,0,0,1,1,0,0])) ((opsAt (fAt Try.f77 [1,0,1,1,1,1,0,0,0,0,1,0,0,1,1,0,0,1,1,0,0])).drop 0) (FF 61 d) H K' =
  onV (oFieldAddr Try.prog 29 (d 8) 1) fun v1 =>
  onV (gLoad Try.prog 3 v1 H) fun v2 =>
  onV (oLen Try.prog 59 (d 7)) fun v3 =>
  onV ((oBin Try.prog .eql 3 v2 v3).filter closed) fun v4 =>
  K' ((FF 61 d) |>.set 29 v1 |>.set 30 v2 |>.set 31 (d 7) |>.set 32 v3 |>.set 33 v4) H := by kernel_rfl
theorem s77_10 : gOps Try.prog 0 call (opsAt (fAt Try.f77 [1,0,1,1,1,1,0,0,0,0,1,0,0,1,1,1])) ((opsAt (fAt Try.f77 [1,0,1,1,1,1,0,0,0,0,1,0,0,1,1,1])).drop 0) ((FF 61 d) |>.set 29 v1 |>.set 30 v2 |>.set 31 (d 7) |>.set 32 v3 |>.set 33 v4) H K' =
  onV ((oBin Try.prog .add 3 (d 16) (.int .i64 1)).filter closed) fun v5 =>
  K' ((FF 61 d) |>.set 29 v1 |>.set 30 v2 |>.set 31 (d 7) |>.set 32 v3 |>.set 33 v4 |>.set 59 v5 |>.set 16 v5) H := by kernel_rfl
theorem s77_11 : gOps Try.prog 0 call (opsAt (fAt Try.f77 [1,0,1,1,1,1,0,0,0,0,1,0,0,1,1,0,0,1,1,1,0])) ((opsAt (fAt Try.f77 [1,0,1,1,1,1,0,0,0,0,1,0,0,1,1,0,0,1,1,1,0])).drop 0) ((FF 61 d) |>.set 29 v1 |>.set 30 v2 |>.set 31 (d 7) |>.set 32 v3 |>.set 33 v4) H K' =
  onV (oFieldAddr Try.prog 29 (d 8) 1) fun v6 =>
  onV (gLoad Try.prog 3 v6 H) fun v7 =>
  onV (oIndexAddr Try.prog 59 (d 7) v7) fun v8 =>
  onV (gLoad Try.prog 62 v8 H) fun v9 =>
  onH (gStore Try.prog 62 (.pointer (some ⟨H.n, 0, none⟩)) v9 (GH.push H (.row [(.int .u8 0), (.bool false), (.slice none 0 0), (.slice none 0 0)] 62 false))) fun H10 =>
  K' ((FF 61 d) |>.set 29 v1 |>.set 30 v2 |>.set 31 (d 7) |>.set 32 v3 |>.set 33 v4 |>.set 34 (d 7) |>.set 35 v6 |>.set 36 v7 |>.set 37 v8 |>.set 38 v9 |>.set 9 (.pointer (some ⟨H.n, 0, none⟩))) H10 := by kernel_rfl
theorem s77_12 : gOps Try.prog 0 call (opsAt (fAt Try.f77 [1,0,1,1,1,1,0,0,0,0,1,0,0,1,1,0,0,1,1,1,1,0,0])) (((opsAt (fAt Try.f77 [1,0,1,1,1,1,0,0,0,0,1,0,0,1,1,0,0,1,1,1,1,0,0])).drop 0).take 5) (FF 61 d) H K' =
  onV (oFieldAddr Try.prog 62 (d 9) 2) fun v1 =>
  onV (gLoad Try.prog 26 v1 H) fun v2 =>
  onCall 0 call (.func (.func 46) #[] #[]) [v2, (.func (.func 140) #[] #[(d 5)])] H fun v3 H4 =>
  onGrd true v3 (K' ((FF 61 d) |>.set 39 v1 |>.set 40 v2 |>.set 41 (.func (.func 140) #[] #[(d 5)]) |>.set 42 v3 |>.set 43 v3) H4) := by kernel_rfl
theorem s77_13 : gOps Try.prog 0 call (opsAt (fAt Try.f77 [1,0,1,1,1,1,0,0,0,0,1,0,0,1,1,0,0,1,1,1,1,0,0])) ((opsAt (fAt Try.f77 [1,0,1,1,1,1,0,0,0,0,1,0,0,1,1,0,0,1,1,1,1,0,0])).drop 5) ((FF 61 d) |>.set 43 (.bool true)) H K' =
  K' ((FF 61 d) |>.set 43 (.bool true) |>.set 44 undef |>.set 45 undef |>.set 46 undef |>.set 47 undef |>.set 48 (.bool true)) H := by kernel_rfl
theorem s77_14 : gOps Try.prog 0 call (opsAt (fAt Try.f77 [1,0,1,1,1,1,0,0,0,0,1,0,0,1,1,1])) ((opsAt (fAt Try.f77 [1,0,1,1,1,1,0,0,0,0,1,0,0,1,1,1])).drop 0) ((FF 61 d) |>.set 43 (.bool true) |>.set 44 undef |>.set 45 undef |>.set 46 undef |>.set 47 undef |>.set 48 (.bool true)) H K' =
  onV ((oBin Try.prog .add 3 (d 16) (.int .i64 1)).filter closed) fun v1 =>
  K' ((FF 61 d) |>.set 43 (.bool true) |>.set 44 undef |>.set 45 undef |>.set 46 undef |>.set 47 undef |>.set 48 (.bool true) |>.set 59 v1 |>.set 16 v1) H := by kernel_rfl
theorem s77_15 : gOps Try.prog 0 call (opsAt (fAt Try.f77 [1,0,1,1,1,1,0,0,0,0,1,0,0,1,1,0,0,1,1,1,1,0,0])) ((opsAt (fAt Try.f77 [1,0,1,1,1,1,0,0,0,0,1,0,0,1,1,0,0,1,1,1,1,0,0])).drop 5) ((FF 61 d) |>.set 43 (.bool false)) H K' =
  onV (oFieldAddr Try.prog 62 (d 9) 3) fun v1 =>
  onV (gLoad Try.prog 60 v1 H) fun v2 =>
  onCall 0 call (.func (.func 141) #[] #[]) [v2, (.func (.func 142) #[] #[(d 5)])] H fun v3 H4 =>
  K' ((FF 61 d) |>.set 43 (.bool false) |>.set 44 v1 |>.set 45 v2 |>.set 46 (.func (.func 142) #[] #[(d 5)]) |>.set 47 v3 |>.set 48 v3) H4 := by kernel_rfl
theorem s77_16 : gOps Try.prog 0 call (opsAt (fAt Try.f77 [1,0,1,1,1,1,0,0,0,0,1,0,0,1,1,1])) ((opsAt (fAt Try.f77 [1,0,1,1,1,1,0,0,0,0,1,0,0,1,1,1])).drop 0) ((FF 61 d) |>.set 43 (.bool false) |>.set 44 v1 |>.set 45 v2 |>.set 46 (.func (.func 142) #[] #[(d 5)]) |>.set 47 v3 |>.set 48 v3) H4 K' =
  onV ((oBin Try.prog .add 3 (d 16) (.int .i64 1)).filter closed) fun v5 =>
  K' ((FF 61 d) |>.set 43 (.bool false) |>.set 44 v1 |>.set 45 v2 |>.set 46 (.func (.func 142) #[] #[(d 5)]) |>.set 47 v3 |>.set 48 v3 |>.set 59 v5 |>.set 16 v5) H4 := by kernel_rfl
theorem s77_17 : gOps Try.prog 0 call (opsAt (fAt Try.f77 [1,0,1,1,1,1,0,0,0,0,1,0,0,1,1,0,0,1,1,1,1,1,0])) ((opsAt (fAt Try.f77 [1,0,1,1,1,1,0,0,0,0,1,0,0,1,1,0,0,1,1,1,1,1,0])).drop 0) ((FF 61 d) |>.set 43 (.bool false) |>.set 44 v1 |>.set 45 v2 |>.set 46 (.func (.func 142) #[] #[(d 5)]) |>.set 47 v3 |>.set 48 v3) H4 K' =
  onV (gLoad Try.prog 29 (d 8) H4) fun v6 =>
  onVH (gBuildSlice Try.prog 26 1 [(0, v6)] H4) fun v7 H8 =>
  onVH (gAppend Try.prog 26 26 (d 3) v7 H8) fun v9 H10 =>
  K' ((FF 61 d) |>.set 43 (.bool false) |>.set 44 v1 |>.set 45 v2 |>.set 46 (.func (.func 142) #[] #[(d 5)]) |>.set 47 v3 |>.set 48 v3 |>.set 49 (d 3) |>.set 50 v6 |>.set 51 v7 |>.set 52 v9 |>.set 3 v9) H10 := by kernel_rfl
theorem s77_18 : gOps Try.prog 0 call (opsAt (fAt Try.f77 [1,0,1,1,1,1,0,0,0,0,1,0,0,1,1,0,0,1,1,1,1,1,1,0])) ((opsAt (fAt Try.f77 [1,0,1,1,1,1,0,0,0,0,1,0,0,1,1,0,0,1,1,1,1,1,1,0])).drop 0) (FF 61 d) H K' =
  onV (gLoad Try.prog 71 (d 4) H) fun v1 =>
  onV (oIndexAddr Try.prog 71 v1 (d 6)) fun v2 =>
  onV (gLoad Try.prog 3 v2 H) fun v3 =>
  onV ((oBin Try.prog .add 3 v3 (.int .i64 1)).filter closed) fun v4 =>
  onV (oIndexAddr Try.prog 71 v1 (d 6)) fun v5 =>
  onH (gStore Try.prog 3 v5 v4 H) fun H6 =>
  K' ((FF 61 d) |>.set 53 v1 |>.set 54 (d 6) |>.set 55 v2 |>.set 56 v3 |>.set 57 v4 |>.set 58 v5) H6 := by kernel_rfl
def f77_l5_P (ag : GA → GH → M (Value × GH)) (sg : Value → Value → Value → Value → Value → Value → Value → GH → M (Value × GH)) : Prop := ∀ (d : Nat → Value) (H : GH), ag (FF 61 d) H = sg (d 1) (d 3) (d 4) (d 5) (d 14) (d 15) (d 16) H
theorem f77_l5_at {ag : GA → GH → M (Value × GH)} {sg : Value → Value → Value → Value → Value → Value → Value → GH → M (Value × GH)} (h : f77_l5_P ag sg) : ag (FF 61 d) H = sg (d 1) (d 3) (d 4) (d 5) (d 14) (d 15) (d 16) H := h d H
def f77_l4_P (ag : GA → GH → M (Value × GH)) (sg : Value → Value → Value → Value → GH → M (Value × GH)) : Prop := ∀ (d : Nat → Value) (H : GH), ag (FF 61 d) H = sg (d 1) (d 3) (d 4) (d 5) H
theorem f77_l4_at {ag : GA → GH → M (Value × GH)} {sg : Value → Value → Value → Value → GH → M (Value × GH)} (h : f77_l4_P ag sg) : ag (FF 61 d) H = sg (d 1) (d 3) (d 4) (d 5) H := h d H
noncomputable def f77_r12 (call : Handle) (k : Nat) (sg_l4 : Value → Value → Value → Value → GH → M (Value × GH)) (sg_l5 : Value → Value → Value → Value → Value → Value → Value → GH → M (Value × GH)) (x1 x3 x4 x5 x6 : Value) (H : GH) : M (Value × GH) :=
  onV (gLoad Try.prog 71 x4 H) fun v1 =>
  onV (oIndexAddr Try.prog 71 v1 x6) fun v2 =>
  onV (gLoad Try.prog 3 v2 H) fun v3 =>
  onV ((oBin Try.prog .add 3 v3 (.int .i64 1)).filter closed) fun v4 =>
  onV (oIndexAddr Try.prog 71 v1 x6) fun v5 =>
  onH (gStore Try.prog 3 v5 v4 H) fun H6 =>
  (sg_l4 x1 x3 x4 x5 H6)
theorem f77_r12_eq (call : Handle) (k : Nat) (ag_l4 : GA → GH → M (Value × GH)) (sg_l4 : Value → Value → Value → Value → GH → M (Value × GH)) (h_l4 : f77_l4_P ag_l4 sg_l4) (ag_l5 : GA → GH → M (Value × GH)) (sg_l5 : Value → Value → Value → Value → Value → Value → Value → GH → M (Value × GH)) (h_l5 : f77_l5_P ag_l5 sg_l5) : gCode Try.prog call k (fAt Try.f77 [1,0,1,1,1,1,0,0,0,0,1,0,0,1,1,0,0,1,1,1,1,1,1,0]) (FF 61 d) H (hSeq (gCode Try.prog call k (fAt Try.f77 [1,0,1,1,1,1,0,0,0,0,1,0,0,1,1,0,0,1,1,1,1,1,1,1])) (hBlock 3 (hSeq (gCode Try.prog call k (fAt Try.f77 [1,0,1,1,1,1,0,0,0,0,1,0,0,1,1,1])) (hLoop ag_l5 (hBlock 2 (hSeq (gCode Try.prog call k (fAt Try.f77 [1,0,1,1,1,1,0,0,0,1])) (hBlock 1 (hLoop ag_l4 (hBlock 0 (hFin Try.prog Try.f77)))))))))) = f77_r12 call k sg_l4 sg_l5 (d 1) (d 3) (d 4) (d 5) (d 6) H := by
  unfold f77_r12
  rw [n77_52]
  rw [s77_18]
  refine onV_c fun v1 => ?_
  refine onV_c fun v2 => ?_
  refine onV_c fun v3 => ?_
  refine onV_c fun v4 => ?_
  refine onV_c fun v5 => ?_
  refine onH_c fun H6 => ?_
  rw [hSeq_n]
  rw [n77_53]
  rw [hBlock_miss (i := 3) (j := 1) (by decide), hSeq_e, hLoop_e, hBlock_miss (i := 2) (j := 1) (by decide), hSeq_e, hBlock_hit]
  rw [hLoop_n]
  rw [show ((FF 61 d) |>.set 53 v1 |>.set 54 (d 6) |>.set 55 v2 |>.set 56 v3 |>.set 57 v4 |>.set 58 v5) = (FF 61 (gf ((FF 61 d) |>.set 53 v1 |>.set 54 (d 6) |>.set 55 v2 |>.set 56 v3 |>.set 57 v4 |>.set 58 v5))) from by kernel_rfl]
  exact (f77_l4_at (d := gf ((FF 61 d) |>.set 53 v1 |>.set 54 (d 6) |>.set 55 v2 |>.set 56 v3 |>.set 57 v4 |>.set 58 v5)) h_l4).trans (by kernel_rfl)
noncomputable def f77_g10_5 (call : Handle) (k : Nat) (sg_l4 : Value → Value → Value → Value → GH → M (Value × GH)) (sg_l5 : Value → Value → Value → Value → Value → Value → Value → GH → M (Value × GH)) (x43 : Value) (x1 x3 x4 x5 x6 x8 x9 x14 x15 x16 : Value) (H : GH) : M (Value × GH) :=
 onBool (asB x43)
  (onV ((oBin Try.prog .add 3 x16 (.int .i64 1)).filter closed) fun v1 =>
  (sg_l5 x1 x3 x4 x5 x14 x15 v1 H))
  (onV (oFieldAddr Try.prog 62 x9 3) fun v1 =>
  onV (gLoad Try.prog 60 v1 H) fun v2 =>
  onCall 0 call (.func (.func 141) #[] #[]) [v2, (.func (.func 142) #[] #[x5])] H fun v3 H4 =>
  onBool (asB v3)
  (onV ((oBin Try.prog .add 3 x16 (.int .i64 1)).filter closed) fun v5 =>
  (sg_l5 x1 x3 x4 x5 x14 x15 v5 H4))
  (onV (gLoad Try.prog 29 x8 H4) fun v6 =>
  onVH (gBuildSlice Try.prog 26 1 [(0, v6)] H4) fun v7 H8 =>
  onVH (gAppend Try.prog 26 26 x3 v7 H8) fun v9 H10 =>
  (f77_r12 call k (sg_l4) (sg_l5) x1 v9 x4 x5 x6 H10)))
theorem f77_g10_5_true (call : Handle) (k : Nat) (ag_l4 : GA → GH → M (Value × GH)) (sg_l4 : Value → Value → Value → Value → GH → M (Value × GH)) (h_l4 : f77_l4_P ag_l4 sg_l4) (ag_l5 : GA → GH → M (Value × GH)) (sg_l5 : Value → Value → Value → Value → Value → Value → Value → GH → M (Value × GH)) (h_l5 : f77_l5_P ag_l5 sg_l5) : gOps Try.prog 0 call (opsAt (fAt Try.f77 [1,0,1,1,1,1,0,0,0,0,1,0,0,1,1,0,0,1,1,1,1,0,0])) ((opsAt (fAt Try.f77 [1,0,1,1,1,1,0,0,0,0,1,0,0,1,1,0,0,1,1,1,1,0,0])).drop 5) ((FF 61 d) |>.set 43 (.bool true)) H ((hSeq (gCode Try.prog call k (fAt Try.f77 [1,0,1,1,1,1,0,0,0,0,1,0,0,1,1,0,0,1,1,1,1,0,1])) (hSeq (gCode Try.prog call k (fAt Try.f77 [1,0,1,1,1,1,0,0,0,0,1,0,0,1,1,0,0,1,1,1,1,1])) (hBlock 3 (hSeq (gCode Try.prog call k (fAt Try.f77 [1,0,1,1,1,1,0,0,0,0,1,0,0,1,1,1])) (hLoop ag_l5 (hBlock 2 (hSeq (gCode Try.prog call k (fAt Try.f77 [1,0,1,1,1,1,0,0,0,1])) (hBlock 1 (hLoop ag_l4 (hBlock 0 (hFin Try.prog Try.f77))))))))))) .normal) =
  onV ((oBin Try.prog .add 3 (d 16) (.int .i64 1)).filter closed) fun v1 =>
  (sg_l5 (d 1) (d 3) (d 4) (d 5) (d 14) (d 15) v1 H) := by
  rw [s77_13]
  rw [hSeq_n]
  rw [n77_46]
  refine (onBool_tt (by kernel_rfl)).trans ?_
  rw [n77_47]
  rw [hSeq_e, hBlock_hit]
  rw [hSeq_n]
  rw [n77_39]
  rw [s77_14]
  refine onV_c fun v1 => ?_
  rw [hLoop_n]
  rw [show ((FF 61 d) |>.set 43 (.bool true) |>.set 44 undef |>.set 45 undef |>.set 46 undef |>.set 47 undef |>.set 48 (.bool true) |>.set 59 v1 |>.set 16 v1) = (FF 61 (gf ((FF 61 d) |>.set 43 (.bool true) |>.set 44 undef |>.set 45 undef |>.set 46 undef |>.set 47 undef |>.set 48 (.bool true) |>.set 59 v1 |>.set 16 v1))) from by kernel_rfl]
  exact (f77_l5_at (d := gf ((FF 61 d) |>.set 43 (.bool true) |>.set 44 undef |>.set 45 undef |>.set 46 undef |>.set 47 undef |>.set 48 (.bool true) |>.set 59 v1 |>.set 16 v1)) h_l5).trans (by kernel_rfl)
theorem f77_g10_5_false (call : Handle) (k : Nat) (ag_l4 : GA → GH → M (Value × GH)) (sg_l4 : Value → Value → Value → Value → GH → M (Value × GH)) (h_l4 : f77_l4_P ag_l4 sg_l4) (ag_l5 : GA → GH → M (Value × GH)) (sg_l5 : Value → Value → Value → Value → Value → Value → Value → GH → M (Value × GH)) (h_l5 : f77_l5_P ag_l5 sg_l5) : gOps Try.prog 0 call (opsAt (fAt Try.f77 [1,0,1,1,1,1,0,0,0,0,1,0,0,1,1,0,0,1,1,1,1,0,0])) ((opsAt (fAt Try.f77 [1,0,1,1,1,1,0,0,0,0,1,0,0,1,1,0,0,1,1,1,1,0,0])).drop 5) ((FF 61 d) |>.set 43 (.bool false)) H ((hSeq (gCode Try.prog call k (fAt Try.f77 [1,0,1,1,1,1,0,0,0,0,1,0,0,1,1,0,0,1,1,1,1,0,1])) (hSeq (gCode Try.prog call k (fAt Try.f77 [1,0,1,1,1,1,0,0,0,0,1,0,0,1,1,0,0,1,1,1,1,1])) (hBlock 3 (hSeq (gCode Try.prog call k (fAt Try.f77 [1,0,1,1,1,1,0,0,0,0,1,0,0,1,1,1])) (hLoop ag_l5 (hBlock 2 (hSeq (gCode Try.prog call k (fAt Try.f77 [1,0,1,1,1,1,0,0,0,1])) (hBlock 1 (hLoop ag_l4 (hBlock 0 (hFin Try.prog Try.f77))))))))))) .normal) =
  onV (oFieldAddr Try.prog 62 (d 9) 3) fun v1 =>
  onV (gLoad Try.prog 60 v1 H) fun v2 =>
  onCall 0 call (.func (.func 141) #[] #[]) [v2, (.func (.func 142) #[] #[(d 5)])] H fun v3 H4 =>
  onBool (asB v3)
  (onV ((oBin Try.prog .add 3 (d 16) (.int .i64 1)).filter closed) fun v5 =>
  (sg_l5 (d 1) (d 3) (d 4) (d 5) (d 14) (d 15) v5 H4))
  (onV (gLoad Try.prog 29 (d 8) H4) fun v6 =>
  onVH (gBuildSlice Try.prog 26 1 [(0, v6)] H4) fun v7 H8 =>
  onVH (gAppend Try.prog 26 26 (d 3) v7 H8) fun v9 H10 =>
  (f77_r12 call k (sg_l4) (sg_l5) (d 1) v9 (d 4) (d 5) (d 6) H10)) := by
  rw [s77_15]
  refine onV_c fun v1 => ?_
  refine onV_c fun v2 => ?_
  refine onCall_c fun v3 H4 => ?_
  rw [hSeq_n]
  rw [n77_46]
  refine onBool_cc (by kernel_rfl) ?_ ?_
  · rw [n77_47]
    rw [hSeq_e, hBlock_hit]
    rw [hSeq_n]
    rw [n77_39]
    rw [s77_16]
    refine onV_c fun v5 => ?_
    rw [hLoop_n]
    rw [show ((FF 61 d) |>.set 43 (.bool false) |>.set 44 v1 |>.set 45 v2 |>.set 46 (.func (.func 142) #[] #[(d 5)]) |>.set 47 v3 |>.set 48 v3 |>.set 59 v5 |>.set 16 v5) = (FF 61 (gf ((FF 61 d) |>.set 43 (.bool false) |>.set 44 v1 |>.set 45 v2 |>.set 46 (.func (.func 142) #[] #[(d 5)]) |>.set 47 v3 |>.set 48 v3 |>.set 59 v5 |>.set 16 v5))) from by kernel_rfl]
    exact (f77_l5_at (d := gf ((FF 61 d) |>.set 43 (.bool false) |>.set 44 v1 |>.set 45 v2 |>.set 46 (.func (.func 142) #[] #[(d 5)]) |>.set 47 v3 |>.set 48 v3 |>.set 59 v5 |>.set 16 v5)) h_l5).trans (by kernel_rfl)
  · rw [n77_48]
    rw [hSeq_n]
    rw [n77_49]
    rw [n77_50]
    rw [s77_17]
    refine onV_c fun v6 => ?_
    refine onVH_c fun v7 H8 => ?_
    refine onVH_c fun v9 H10 => ?_
    rw [hSeq_n]
    rw [n77_51]
    rw [show ((FF 61 d) |>.set 43 (.bool false) |>.set 44 v1 |>.set 45 v2 |>.set 46 (.func (.func 142) #[] #[(d 5)]) |>.set 47 v3 |>.set 48 v3 |>.set 49 (d 3) |>.set 50 v6 |>.set 51 v7 |>.set 52 v9 |>.set 3 v9) = (FF 61 (gf ((FF 61 d) |>.set 43 (.bool false) |>.set 44 v1 |>.set 45 v2 |>.set 46 (.func (.func 142) #[] #[(d 5)]) |>.set 47 v3 |>.set 48 v3 |>.set 49 (d 3) |>.set 50 v6 |>.set 51 v7 |>.set 52 v9 |>.set 3 v9))) from by kernel_rfl]
    exact (f77_r12_eq (d := gf ((FF 61 d) |>.set 43 (.bool false) |>.set 44 v1 |>.set 45 v2 |>.set 46 (.func (.func 142) #[] #[(d 5)]) |>.set 47 v3 |>.set 48 v3 |>.set 49 (d 3) |>.set 50 v6 |>.set 51 v7 |>.set 52 v9 |>.set 3 v9)) call k ag_l4 sg_l4 h_l4 ag_l5 sg_l5 h_l5).trans (by kernel_rfl)
theorem f77_g10_5_eq (call : Handle) (k : Nat) (ag_l4 : GA → GH → M (Value × GH)) (sg_l4 : Value → Value → Value → Value → GH → M (Value × GH)) (h_l4 : f77_l4_P ag_l4 sg_l4) (ag_l5 : GA → GH → M (Value × GH)) (sg_l5 : Value → Value → Value → Value → Value → Value → Value → GH → M (Value × GH)) (h_l5 : f77_l5_P ag_l5 sg_l5) : onGrd true xg (gOps Try.prog 0 call (opsAt (fAt Try.f77 [1,0,1,1,1,1,0,0,0,0,1,0,0,1,1,0,0,1,1,1,1,0,0])) ((opsAt (fAt Try.f77 [1,0,1,1,1,1,0,0,0,0,1,0,0,1,1,0,0,1,1,1,1,0,0])).drop 5) ((FF 61 d) |>.set 43 xg) H ((hSeq (gCode Try.prog call k (fAt Try.f77 [1,0,1,1,1,1,0,0,0,0,1,0,0,1,1,0,0,1,1,1,1,0,1])) (hSeq (gCode Try.prog call k (fAt Try.f77 [1,0,1,1,1,1,0,0,0,0,1,0,0,1,1,0,0,1,1,1,1,1])) (hBlock 3 (hSeq (gCode Try.prog call k (fAt Try.f77 [1,0,1,1,1,1,0,0,0,0,1,0,0,1,1,1])) (hLoop ag_l5 (hBlock 2 (hSeq (gCode Try.prog call k (fAt Try.f77 [1,0,1,1,1,1,0,0,0,1])) (hBlock 1 (hLoop ag_l4 (hBlock 0 (hFin Try.prog Try.f77))))))))))) .normal)) =
  f77_g10_5 call k sg_l4 sg_l5 xg (d 1) (d 3) (d 4) (d 5) (d 6) (d 8) (d 9) (d 14) (d 15) (d 16) H := by
  cases xg with
  | bool b => cases b with
    | true => exact onGrd_b.trans (f77_g10_5_true call k ag_l4 sg_l4 h_l4 ag_l5 sg_l5 h_l5)
    | false => exact onGrd_b.trans (f77_g10_5_false call k ag_l4 sg_l4 h_l4 ag_l5 sg_l5 h_l5)
  | _ => kernel_rfl
noncomputable def f77_r10 (call : Handle) (k : Nat) (sg_l4 : Value → Value → Value → Value → GH → M (Value × GH)) (sg_l5 : Value → Value → Value → Value → Value → Value → Value → GH → M (Value × GH)) (x1 x3 x4 x5 x6 x8 x9 x14 x15 x16 : Value) (H : GH) : M (Value × GH) :=
  onV (oFieldAddr Try.prog 62 x9 2) fun v1 =>
  onV (gLoad Try.prog 26 v1 H) fun v2 =>
  onCall 0 call (.func (.func 46) #[] #[]) [v2, (.func (.func 140) #[] #[x5])] H fun v3 H4 =>
  (f77_g10_5 call k (sg_l4) (sg_l5) v3 x1 x3 x4 x5 x6 x8 x9 x14 x15 x16 H4)
theorem f77_r10_eq (call : Handle) (k : Nat) (ag_l4 : GA → GH → M (Value × GH)) (sg_l4 : Value → Value → Value → Value → GH → M (Value × GH)) (h_l4 : f77_l4_P ag_l4 sg_l4) (ag_l5 : GA → GH → M (Value × GH)) (sg_l5 : Value → Value → Value → Value → Value → Value → Value → GH → M (Value × GH)) (h_l5 : f77_l5_P ag_l5 sg_l5) : gCode Try.prog call k (fAt Try.f77 [1,0,1,1,1,1,0,0,0,0,1,0,0,1,1,0,0,1,1,1,1,0,0]) (FF 61 d) H (hSeq (gCode Try.prog call k (fAt Try.f77 [1,0,1,1,1,1,0,0,0,0,1,0,0,1,1,0,0,1,1,1,1,0,1])) (hSeq (gCode Try.prog call k (fAt Try.f77 [1,0,1,1,1,1,0,0,0,0,1,0,0,1,1,0,0,1,1,1,1,1])) (hBlock 3 (hSeq (gCode Try.prog call k (fAt Try.f77 [1,0,1,1,1,1,0,0,0,0,1,0,0,1,1,1])) (hLoop ag_l5 (hBlock 2 (hSeq (gCode Try.prog call k (fAt Try.f77 [1,0,1,1,1,1,0,0,0,1])) (hBlock 1 (hLoop ag_l4 (hBlock 0 (hFin Try.prog Try.f77))))))))))) = f77_r10 call k sg_l4 sg_l5 (d 1) (d 3) (d 4) (d 5) (d 6) (d 8) (d 9) (d 14) (d 15) (d 16) H := by
  unfold f77_r10
  rw [n77_45]
  rw [gOps_split 0 5, s77_12]
  refine onV_c fun v1 => ?_
  refine onV_c fun v2 => ?_
  refine onCall_c fun v3 H4 => ?_
  rw [show ((FF 61 d) |>.set 39 v1 |>.set 40 v2 |>.set 41 (.func (.func 140) #[] #[(d 5)]) |>.set 42 v3 |>.set 43 v3) = ((FF 61 (gf ((FF 61 d) |>.set 39 v1 |>.set 40 v2 |>.set 41 (.func (.func 140) #[] #[(d 5)]) |>.set 42 v3 |>.set 43 v3))) |>.set 43 v3) from by kernel_rfl]
  exact (f77_g10_5_eq (d := gf ((FF 61 d) |>.set 39 v1 |>.set 40 v2 |>.set 41 (.func (.func 140) #[] #[(d 5)]) |>.set 42 v3 |>.set 43 v3)) call k ag_l4 sg_l4 h_l4 ag_l5 sg_l5 h_l5).trans (by kernel_rfl)
noncomputable def f77_r8 (call : Handle) (k : Nat) (sg_l4 : Value → Value → Value → Value → GH → M (Value × GH)) (sg_l5 : Value → Value → Value → Value → Value → Value → Value → GH → M (Value × GH)) (x1 x3 x4 x5 x6 x7 x8 x14 x15 x16 : Value) (H : GH) : M (Value × GH) :=
  onV (oFieldAddr Try.prog 29 x8 1) fun v1 =>
  onV (gLoad Try.prog 3 v1 H) fun v2 =>
  onV (oLen Try.prog 59 x7) fun v3 =>
  onV ((oBin Try.prog .eql 3 v2 v3).filter closed) fun v4 =>
  onBool (asB v4)
  (onV ((oBin Try.prog .add 3 x16 (.int .i64 1)).filter closed) fun v5 =>
  (sg_l5 x1 x3 x4 x5 x14 x15 v5 H))
  (onV (oFieldAddr Try.prog 29 x8 1) fun v6 =>
  onV (gLoad Try.prog 3 v6 H) fun v7 =>
  onV (oIndexAddr Try.prog 59 x7 v7) fun v8 =>
  onV (gLoad Try.prog 62 v8 H) fun v9 =>
  onH (gStore Try.prog 62 (.pointer (some ⟨H.n, 0, none⟩)) v9 (GH.push H (.row [(.int .u8 0), (.bool false), (.slice none 0 0), (.slice none 0 0)] 62 false))) fun H10 =>
  (f77_r10 call k (sg_l4) (sg_l5) x1 x3 x4 x5 x6 x8 (.pointer (some ⟨H.n, 0, none⟩)) x14 x15 x16 H10))
theorem f77_r8_eq (call : Handle) (k : Nat) (ag_l4 : GA → GH → M (Value × GH)) (sg_l4 : Value → Value → Value → Value → GH → M (Value × GH)) (h_l4 : f77_l4_P ag_l4 sg_l4) (ag_l5 : GA → GH → M (Value × GH)) (sg_l5 : Value → Value → Value → Value → Value → Value → Value → GH → M (Value × GH)) (h_l5 : f77_l5_P ag_l5 sg_l5) : gCode Try.prog call k (fAt Try.f77 [1,0,1,1,1,1,0,0,0,0,1,0,0,1,1,0,0,1,1,0,0]) (FF 61 d) H (hSeq (gCode Try.prog call k (fAt Try.f77 [1,0,1,1,1,1,0,0,0,0,1,0,0,1,1,0,0,1,1,0,1])) (hSeq (gCode Try.prog call k (fAt Try.f77 [1,0,1,1,1,1,0,0,0,0,1,0,0,1,1,0,0,1,1,1])) (hBlock 3 (hSeq (gCode Try.prog call k (fAt Try.f77 [1,0,1,1,1,1,0,0,0,0,1,0,0,1,1,1])) (hLoop ag_l5 (hBlock 2 (hSeq (gCode Try.prog call k (fAt Try.f77 [1,0,1,1,1,1,0,0,0,1])) (hBlock 1 (hLoop ag_l4 (hBlock 0 (hFin Try.prog Try.f77))))))))))) = f77_r8 call k sg_l4 sg_l5 (d 1) (d 3) (d 4) (d 5) (d 6) (d 7) (d 8) (d 14) (d 15) (d 16) H := by
  unfold f77_r8
  rw [n77_36]
  rw [s77_9]
  refine onV_c fun v1 => ?_
  refine onV_c fun v2 => ?_
  refine onV_c fun v3 => ?_
  refine onV_c fun v4 => ?_
  rw [hSeq_n]
  rw [n77_37]
  refine onBool_cc (by kernel_rfl) ?_ ?_
  · rw [n77_38]
    rw [hSeq_e, hBlock_hit]
    rw [hSeq_n]
    rw [n77_39]
    rw [s77_10]
    refine onV_c fun v5 => ?_
    rw [hLoop_n]
    rw [show ((FF 61 d) |>.set 29 v1 |>.set 30 v2 |>.set 31 (d 7) |>.set 32 v3 |>.set 33 v4 |>.set 59 v5 |>.set 16 v5) = (FF 61 (gf ((FF 61 d) |>.set 29 v1 |>.set 30 v2 |>.set 31 (d 7) |>.set 32 v3 |>.set 33 v4 |>.set 59 v5 |>.set 16 v5))) from by kernel_rfl]
    exact (f77_l5_at (d := gf ((FF 61 d) |>.set 29 v1 |>.set 30 v2 |>.set 31 (d 7) |>.set 32 v3 |>.set 33 v4 |>.set 59 v5 |>.set 16 v5)) h_l5).trans (by kernel_rfl)
  · rw [n77_40]
    rw [hSeq_n]
    rw [n77_41]
    rw [n77_42]
    rw [s77_11]
    refine onV_c fun v6 => ?_
    refine onV_c fun v7 => ?_
    refine onV_c fun v8 => ?_
    refine onV_c fun v9 => ?_
    refine onH_c fun H10 => ?_
    rw [hSeq_n]
    rw [n77_43]
    rw [n77_44]
    rw [show ((FF 61 d) |>.set 29 v1 |>.set 30 v2 |>.set 31 (d 7) |>.set 32 v3 |>.set 33 v4 |>.set 34 (d 7) |>.set 35 v6 |>.set 36 v7 |>.set 37 v8 |>.set 38 v9 |>.set 9 (.pointer (some ⟨H.n, 0, none⟩))) = (FF 61 (gf ((FF 61 d) |>.set 29 v1 |>.set 30 v2 |>.set 31 (d 7) |>.set 32 v3 |>.set 33 v4 |>.set 34 (d 7) |>.set 35 v6 |>.set 36 v7 |>.set 37 v8 |>.set 38 v9 |>.set 9 (.pointer (some ⟨H.n, 0, none⟩))))) from by kernel_rfl]
    exact (f77_r10_eq (d := gf ((FF 61 d) |>.set 29 v1 |>.set 30 v2 |>.set 31 (d 7) |>.set 32 v3 |>.set 33 v4 |>.set 34 (d 7) |>.set 35 v6 |>.set 36 v7 |>.set 37 v8 |>.set 38 v9 |>.set 9 (.pointer (some ⟨H.n, 0, none⟩)))) call k ag_l4 sg_l4 h_l4 ag_l5 sg_l5 h_l5).trans (by kernel_rfl)
noncomputable def f77_r7 (call : Handle) (k : Nat) (sg_l4 : Value → Value → Value → Value → GH → M (Value × GH)) (sg_l5 : Value → Value → Value → Value → Value → Value → Value → GH → M (Value × GH)) (x1 x3 x4 x5 x6 x7 x14 x15 x16 : Value) (H : GH) : M (Value × GH) :=
  onV ((oBin Try.prog .add 3 x6 (.int .i64 1)).filter closed) fun v1 =>
  onV ((oConvert Try.prog 3 5 v1).filter closed) fun v2 =>
  onV (gLoad Try.prog 71 x4 H) fun v3 =>
  onV (oIndexAddr Try.prog 71 v3 x6) fun v4 =>
  onV (gLoad Try.prog 3 v4 H) fun v5 =>
  onV (oBuild Try.prog 29 [(0, v2), (1, v5)]) fun v6 =>
  onH (gStore Try.prog 29 (.pointer (some ⟨H.n, 0, none⟩)) v6 (GH.push H (.row [(.int .u8 0), (.int .i64 0)] 29 false))) fun H7 =>
  (f77_r8 call k (sg_l4) (sg_l5) x1 x3 x4 x5 x6 x7 (.pointer (some ⟨H.n, 0, none⟩)) x14 x15 x16 H7)
theorem f77_r7_eq (call : Handle) (k : Nat) (ag_l4 : GA → GH → M (Value × GH)) (sg_l4 : Value → Value → Value → Value → GH → M (Value × GH)) (h_l4 : f77_l4_P ag_l4 sg_l4) (ag_l5 : GA → GH → M (Value × GH)) (sg_l5 : Value → Value → Value → Value → Value → Value → Value → GH → M (Value × GH)) (h_l5 : f77_l5_P ag_l5 sg_l5) : gCode Try.prog call k (fAt Try.f77 [1,0,1,1,1,1,0,0,0,0,1,0,0,1,1,0,0,1,0]) (FF 61 d) H (hSeq (gCode Try.prog call k (fAt Try.f77 [1,0,1,1,1,1,0,0,0,0,1,0,0,1,1,0,0,1,1])) (hBlock 3 (hSeq (gCode Try.prog call k (fAt Try.f77 [1,0,1,1,1,1,0,0,0,0,1,0,0,1,1,1])) (hLoop ag_l5 (hBlock 2 (hSeq (gCode Try.prog call k (fAt Try.f77 [1,0,1,1,1,1,0,0,0,1])) (hBlock 1 (hLoop ag_l4 (hBlock 0 (hFin Try.prog Try.f77)))))))))) = f77_r7 call k sg_l4 sg_l5 (d 1) (d 3) (d 4) (d 5) (d 6) (d 7) (d 14) (d 15) (d 16) H := by
  unfold f77_r7
  rw [n77_33]
  rw [s77_8]
  refine onV_c fun v1 => ?_
  refine onV_c fun v2 => ?_
  refine onV_c fun v3 => ?_
  refine onV_c fun v4 => ?_
  refine onV_c fun v5 => ?_
  refine onV_c fun v6 => ?_
  refine onH_c fun H7 => ?_
  rw [hSeq_n]
  rw [n77_34]
  rw [n77_35]
  rw [show ((FF 61 d) |>.set 21 (d 6) |>.set 22 v1 |>.set 23 v2 |>.set 24 v3 |>.set 25 (d 6) |>.set 26 v4 |>.set 27 v5 |>.set 28 v6 |>.set 8 (.pointer (some ⟨H.n, 0, none⟩))) = (FF 61 (gf ((FF 61 d) |>.set 21 (d 6) |>.set 22 v1 |>.set 23 v2 |>.set 24 v3 |>.set 25 (d 6) |>.set 26 v4 |>.set 27 v5 |>.set 28 v6 |>.set 8 (.pointer (some ⟨H.n, 0, none⟩))))) from by kernel_rfl]
  exact (f77_r8_eq (d := gf ((FF 61 d) |>.set 21 (d 6) |>.set 22 v1 |>.set 23 v2 |>.set 24 v3 |>.set 25 (d 6) |>.set 26 v4 |>.set 27 v5 |>.set 28 v6 |>.set 8 (.pointer (some ⟨H.n, 0, none⟩)))) call k ag_l4 sg_l4 h_l4 ag_l5 sg_l5 h_l5).trans (by kernel_rfl)
noncomputable def f77_l5b (call : Handle) (k : Nat) (sg_l4 : Value → Value → Value → Value → GH → M (Value × GH)) (sg_l5 : Value → Value → Value → Value → Value → Value → Value → GH → M (Value × GH)) (x1 x3 x4 x5 x14 x15 x16 : Value) (H : GH) : M (Value × GH) :=
  onV ((oBin Try.prog .lss 3 x16 x15).filter closed) fun v1 =>
  onBool (asB v1)
  (onV (oIndexAddr Try.prog 58 x14 x16) fun v2 =>
  onV (gLoad Try.prog 59 v2 H) fun v3 =>
  (f77_r7 call k (sg_l4) (sg_l5) x1 x3 x4 x5 x16 v3 x14 x15 x16 H))
  (some [(x3, H)])
theorem f77_l5b_eq (call : Handle) (k : Nat) (ag_l4 : GA → GH → M (Value × GH)) (sg_l4 : Value → Value → Value → Value → GH → M (Value × GH)) (h_l4 : f77_l4_P ag_l4 sg_l4) (ag_l5 : GA → GH → M (Value × GH)) (sg_l5 : Value → Value → Value → Value → Value → Value → Value → GH → M (Value × GH)) (h_l5 : f77_l5_P ag_l5 sg_l5) : gCode Try.prog call k (fAt Try.f77 [1,0,1,1,1,1,0,0,0,0,1,0,0]) (FF 61 d) H (hLoop ag_l5 (hBlock 2 (hSeq (gCode Try.prog call k (fAt Try.f77 [1,0,1,1,1,1,0,0,0,1])) (hBlock 1 (hLoop ag_l4 (hBlock 0 (hFin Try.prog Try.f77))))))) = f77_l5b call k sg_l4 sg_l5 (d 1) (d 3) (d 4) (d 5) (d 14) (d 15) (d 16) H := by
  unfold f77_l5b
  rw [n77_19]
  rw [n77_20]
  rw [s77_5]
  refine onV_c fun v1 => ?_
  rw [hSeq_n]
  rw [n77_21]
  rw [n77_22]
  refine onBool_cc (by kernel_rfl) ?_ ?_
  · rw [n77_23]
    rw [hSeq_n]
    rw [n77_24]
    rw [n77_25]
    rw [n77_26]
    rw [n77_27]
    rw [s77_6]
    refine onV_c fun v2 => ?_
    refine onV_c fun v3 => ?_
    rw [hSeq_n]
    rw [n77_28]
    rw [show ((FF 61 d) |>.set 17 v1 |>.set 18 (d 16) |>.set 19 v2 |>.set 20 v3 |>.set 6 (d 16) |>.set 7 v3) = (FF 61 (gf ((FF 61 d) |>.set 17 v1 |>.set 18 (d 16) |>.set 19 v2 |>.set 20 v3 |>.set 6 (d 16) |>.set 7 v3))) from by kernel_rfl]
    exact (f77_r7_eq (d := gf ((FF 61 d) |>.set 17 v1 |>.set 18 (d 16) |>.set 19 v2 |>.set 20 v3 |>.set 6 (d 16) |>.set 7 v3)) call k ag_l4 sg_l4 h_l4 ag_l5 sg_l5 h_l5).trans (by kernel_rfl)
  · rw [n77_29]
    rw [hSeq_e, hLoop_e, hBlock_hit]
    rw [hSeq_n]
    rw [n77_30]
    rw [n77_31]
    rw [s77_7]
    rw [hSeq_n]
    rw [n77_32]
    rw [hBlock_r, hLoop_r, hBlock_r]
    kernel_rfl
noncomputable def f77_l5 (call : Handle) (k : Nat) (sg_l4 : Value → Value → Value → Value → GH → M (Value × GH)) : Nat → Value → Value → Value → Value → Value → Value → Value → GH → M (Value × GH)
  | 0, _, _, _, _, _, _, _, _ => none
  | r + 1, x1, x3, x4, x5, x14, x15, x16, H => f77_l5b call k sg_l4 (f77_l5 call k sg_l4 r) x1 x3 x4 x5 x14 x15 x16 H
theorem f77_l5_eq (call : Handle) (k : Nat) (ag_l4 : GA → GH → M (Value × GH)) (sg_l4 : Value → Value → Value → Value → GH → M (Value × GH)) (h_l4 : f77_l4_P ag_l4 sg_l4) : ∀ (r : Nat), f77_l5_P (gLoop (gCode Try.prog call k (fAt Try.f77 [1,0,1,1,1,1,0,0,0,0,1,0,0])) (hBlock 2 (hSeq (gCode Try.prog call k (fAt Try.f77 [1,0,1,1,1,1,0,0,0,1])) (hBlock 1 (hLoop ag_l4 (hBlock 0 (hFin Try.prog Try.f77)))))) r) (f77_l5 call k sg_l4 r) := by
  intro r
  induction r with
  | zero => unfold f77_l5_P; intros; rfl
  | succ r ih => unfold f77_l5_P; intros; exact f77_l5b_eq call k ag_l4 sg_l4 h_l4 _ _ ih
noncomputable def f77_l4b (call : Handle) (k : Nat) (sg_l4 : Value → Value → Value → Value → GH → M (Value × GH)) (x1 x3 x4 x5 : Value) (H : GH) : M (Value × GH) :=
  onV (gLoad Try.prog 58 x1 H) fun v1 =>
  onV (oLen Try.prog 58 v1) fun v2 =>
  (f77_l5 call k (sg_l4) k x1 x3 x4 x5 v1 v2 (.int .i64 0) H)
theorem f77_l4b_eq (call : Handle) (k : Nat) (ag_l4 : GA → GH → M (Value × GH)) (sg_l4 : Value → Value → Value → Value → GH → M (Value × GH)) (h_l4 : f77_l4_P ag_l4 sg_l4) : gCode Try.prog call k (fAt Try.f77 [1,0,1,1,1,1,0,0]) (FF 61 d) H (hLoop ag_l4 (hBlock 0 (hFin Try.prog Try.f77))) = f77_l4b call k sg_l4 (d 1) (d 3) (d 4) (d 5) H := by
  unfold f77_l4b
  rw [n77_13]
  rw [n77_14]
  rw [n77_15]
  rw [n77_16]
  rw [s77_4]
  refine onV_c fun v1 => ?_
  refine onV_c fun v2 => ?_
  rw [hSeq_n]
  rw [n77_17]
  rw [n77_18]
  rw [show ((FF 61 d) |>.set 14 v1 |>.set 15 v2 |>.set 16 (.int .i64 0)) = (FF 61 (gf ((FF 61 d) |>.set 14 v1 |>.set 15 v2 |>.set 16 (.int .i64 0)))) from by kernel_rfl]
  exact (f77_l5_at (d := gf ((FF 61 d) |>.set 14 v1 |>.set 15 v2 |>.set 16 (.int .i64 0))) (f77_l5_eq call k ag_l4 sg_l4 h_l4 k)).trans (by kernel_rfl)
noncomputable def f77_l4 (call : Handle) (k : Nat) : Nat → Value → Value → Value → Value → GH → M (Value × GH)
  | 0, _, _, _, _, _ => none
  | r + 1, x1, x3, x4, x5, H => f77_l4b call k (f77_l4 call k r) x1 x3 x4 x5 H
theorem f77_l4_eq (call : Handle) (k : Nat) : ∀ (r : Nat), f77_l4_P (gLoop (gCode Try.prog call k (fAt Try.f77 [1,0,1,1,1,1,0,0])) (hBlock 0 (hFin Try.prog Try.f77)) r) (f77_l4 call k r) := by
  intro r
  induction r with
  | zero => unfold f77_l4_P; intros; rfl
  | succ r ih => unfold f77_l4_P; intros; exact f77_l4b_eq call k _ _ ih
noncomputable def f77_sh (call : Handle) (k : Nat) (p0 : Value) (H : GH) : M (Value × GH) :=
  onV (gLoad Try.prog 58 (.pointer (some ⟨H.n, 0, none⟩)) (GH.push H (.row (Value.cells p0).toList 58 false))) fun v1 =>
  onV (oLen Try.prog 58 v1) fun v2 =>
  onVH (gMakeSlice Try.prog 71 v2 v2 (GH.push H (.row (Value.cells p0).toList 58 false))) fun v3 H4 =>
  onH (gStore Try.prog 71 (.pointer (some ⟨H4.n, 0, none⟩)) v3 (GH.push H4 (.row [(.slice none 0 0)] 71 false))) fun H5 =>
  onH (gStore Try.prog 113 (.pointer (some ⟨H5.n, 0, none⟩)) (.func (.func 139) #[] #[(.pointer (some ⟨H.n, 0, none⟩)), (.pointer (some ⟨H4.n, 0, none⟩))]) (GH.push H5 (.row [.nilFunc] 113 false))) fun H6 =>
  (f77_l4 call k k (.pointer (some ⟨H.n, 0, none⟩)) (.slice none 0 0) (.pointer (some ⟨H4.n, 0, none⟩)) (.pointer (some ⟨H5.n, 0, none⟩)) H6)
theorem f77_run (call : Handle) (k : Nat) (p0 : Value) (H : GH) : gCode Try.prog call k (fAt Try.f77 []) ((FF 61 fun _ => undef) |>.set 0 p0) H (hFin Try.prog Try.f77) = f77_sh call k p0 H := by
  unfold f77_sh
  rw [n77_0]
  rw [n77_1]
  rw [s77_0]
  rw [hSeq_n]
  rw [n77_2]
  rw [n77_3]
  rw [n77_4]
  rw [s77_1]
  rw [hSeq_n]
  rw [n77_5]
  rw [n77_6]
  rw [s77_2]
  refine onV_c fun v1 => ?_
  refine onV_c fun v2 => ?_
  refine onVH_c fun v3 H4 => ?_
  refine onH_c fun H5 => ?_
  rw [hSeq_n]
  rw [n77_7]
  rw [n77_8]
  rw [s77_3]
  refine onH_c fun H6 => ?_
  rw [hSeq_n]
  rw [n77_9]
  rw [n77_10]
  rw [hSeq_n]
  rw [n77_11]
  rw [n77_12]
  rw [show ((FF 61 fun _ => undef) |>.set 0 p0 |>.set 1 (.pointer (some ⟨H.n, 0, none⟩)) |>.set 2 (.slice none 0 0) |>.set 3 (.slice none 0 0) |>.set 10 v1 |>.set 11 v2 |>.set 12 v3 |>.set 4 (.pointer (some ⟨H4.n, 0, none⟩)) |>.set 13 (.func (.func 139) #[] #[(.pointer (some ⟨H.n, 0, none⟩)), (.pointer (some ⟨H4.n, 0, none⟩))]) |>.set 5 (.pointer (some ⟨H5.n, 0, none⟩))) = (FF 61 (gf ((FF 61 fun _ => undef) |>.set 0 p0 |>.set 1 (.pointer (some ⟨H.n, 0, none⟩)) |>.set 2 (.slice none 0 0) |>.set 3 (.slice none 0 0) |>.set 10 v1 |>.set 11 v2 |>.set 12 v3 |>.set 4 (.pointer (some ⟨H4.n, 0, none⟩)) |>.set 13 (.func (.func 139) #[] #[(.pointer (some ⟨H.n, 0, none⟩)), (.pointer (some ⟨H4.n, 0, none⟩))]) |>.set 5 (.pointer (some ⟨H5.n, 0, none⟩))))) from by kernel_rfl]
  exact (f77_l4_at (d := gf ((FF 61 fun _ => undef) |>.set 0 p0 |>.set 1 (.pointer (some ⟨H.n, 0, none⟩)) |>.set 2 (.slice none 0 0) |>.set 3 (.slice none 0 0) |>.set 10 v1 |>.set 11 v2 |>.set 12 v3 |>.set 4 (.pointer (some ⟨H4.n, 0, none⟩)) |>.set 13 (.func (.func 139) #[] #[(.pointer (some ⟨H.n, 0, none⟩)), (.pointer (some ⟨H4.n, 0, none⟩))]) |>.set 5 (.pointer (some ⟨H5.n, 0, none⟩)))) (f77_l4_eq call k k)).trans (by kernel_rfl)
theorem f77_eq (call : Handle) (k : Nat) (p0 : Value) (H : GH) : gFunc Try.prog call k Try.f77 [p0] H = f77_sh call k p0 H :=
  Eq.trans (by kernel_rfl) (f77_run call k p0 H)
end
section
variable {β : Type} {call : Handle} {k : Nat} {a : GA} {K : Kont β} {K' : GA → GH → M β}
variable {d : Nat → Value} {xg : Value}
variable {p0 p1 : Value}
variable {v1 v2 v3 v4 v5 v6 v7 v8 v9 : Value}
variable {H H4 H5 : GH}
theorem n78_0 : gCode Try.prog call k (fAt Try.f78 []) a H K = gCode Try.prog call k (fAt Try.f78 [0]) a H (hSeq (gCode Try.prog call k (fAt Try.f78 [1])) K) := at_seq (by kernel_rfl)
theorem n78_1 : gCode Try.prog call k (fAt Try.f78 [0]) a H K = gOps Try.prog 0 call (opsAt (fAt Try.f78 [0])) ((opsAt (fAt Try.f78 [0])).drop 0) a H (K .normal) := at_region (by kernel_rfl)
theorem n78_2 : gCode Try.prog call k (fAt Try.f78 [1]) a H K = gCode Try.prog call k (fAt Try.f78 [1,0]) a H (hSeq (gCode Try.prog call k (fAt Try.f78 [1,1])) K) := at_seq (by kernel_rfl)
theorem n78_3 : gCode Try.prog call k (fAt Try.f78 [1,0]) a H K = gCode Try.prog call k (fAt Try.f78 [1,0,0]) a H (hSeq (gCode Try.prog call k (fAt Try.f78 [1,0,1])) K) := at_seq (by kernel_rfl)
theorem n78_4 : gCode Try.prog call k (fAt Try.f78 [1,0,0]) a H K = gOps Try.prog 2 call (opsAt (fAt Try.f78 [1,0,0])) ((opsAt (fAt Try.f78 [1,0,0])).drop 0) a H (K .normal) := at_region (by kernel_rfl)
theorem n78_5 : gCode Try.prog call k (fAt Try.f78 [1,0,1]) a H K = onBool (asB (GA.eval a (.tmp 31))) (gCode Try.prog call k (fAt Try.f78 [1,0,1,0]) a H K) (gCode Try.prog call k (fAt Try.f78 [1,0,1,1]) a H K) := at_cond (by kernel_rfl)
theorem n78_6 : gCode Try.prog call k (fAt Try.f78 [1,0,1,0]) a H K = gCode Try.prog call k (fAt Try.f78 [1,0,1,0,0]) a H (hSeq (gCode Try.prog call k (fAt Try.f78 [1,0,1,0,1])) K) := at_seq (by kernel_rfl)
theorem n78_7 : gCode Try.prog call k (fAt Try.f78 [1,0,1,0,0]) a H K = gOps Try.prog 0 call (opsAt (fAt Try.f78 [1,0,1,0,0])) ((opsAt (fAt Try.f78 [1,0,1,0,0])).drop 0) a H (K .normal) := at_region (by kernel_rfl)
theorem n78_8 : gCode Try.prog call k (fAt Try.f78 [1,0,1,0,1]) a H K = K .ret a H := at_ret (by kernel_rfl)
theorem n78_9 : gCode Try.prog call k (fAt Try.f78 [1,0,1,1]) a H K = K .normal a H := at_skip (by kernel_rfl)
theorem n78_10 : gCode Try.prog call k (fAt Try.f78 [1,1]) a H K = gCode Try.prog call k (fAt Try.f78 [1,1,0]) a H (hSeq (gCode Try.prog call k (fAt Try.f78 [1,1,1])) K) := at_seq (by kernel_rfl)
theorem n78_11 : gCode Try.prog call k (fAt Try.f78 [1,1,0]) a H K = gCode Try.prog call k (fAt Try.f78 [1,1,0,0]) a H (hSeq (gCode Try.prog call k (fAt Try.f78 [1,1,0,1])) K) := at_seq (by kernel_rfl)
theorem n78_12 : gCode Try.prog call k (fAt Try.f78 [1,1,0,0]) a H K = gOps Try.prog 0 call (opsAt (fAt Try.f78 [1,1,0,0])) ((opsAt (fAt Try.f78 [1,1,0,0])).drop 0) a H (K .normal) := at_region (by kernel_rfl)
theorem n78_13 : gCode Try.prog call k (fAt Try.f78 [1,1,0,1]) a H K = gCode Try.prog call k (fAt Try.f78 [1,1,0,1,0]) a H (hBlock 0 K) := at_block (by kernel_rfl)
theorem n78_14 : gCode Try.prog call k (fAt Try.f78 [1,1,0,1,0]) a H K = gLoop (gCode Try.prog call k (fAt Try.f78 [1,1,0,1,0,0])) K k a H := at_loop (by kernel_rfl)
theorem n78_15 : gCode Try.prog call k (fAt Try.f78 [1,1,0,1,0,0]) a H K = gCode Try.prog call k (fAt Try.f78 [1,1,0,1,0,0,0]) a H (hSeq (gCode Try.prog call k (fAt Try.f78 [1,1,0,1,0,0,1])) K) := at_seq (by kernel_rfl)
theorem n78_16 : gCode Try.prog call k (fAt Try.f78 [1,1,0,1,0,0,0]) a H K = gOps Try.prog 0 call (opsAt (fAt Try.f78 [1,1,0,1,0,0,0])) ((opsAt (fAt Try.f78 [1,1,0,1,0,0,0])).drop 0) a H (K .normal) := at_region (by kernel_rfl)
theorem n78_17 : gCode Try.prog call k (fAt Try.f78 [1,1,0,1,0,0,1]) a H K = gCode Try.prog call k (fAt Try.f78 [1,1,0,1,0,0,1,0]) a H (hSeq (gCode Try.prog call k (fAt Try.f78 [1,1,0,1,0,0,1,1])) K) := at_seq (by kernel_rfl)
theorem n78_18 : gCode Try.prog call k (fAt Try.f78 [1,1,0,1,0,0,1,0]) a H K = onBool (asB (GA.eval a (.tmp 36))) (gCode Try.prog call k (fAt Try.f78 [1,1,0,1,0,0,1,0,0]) a H K) (gCode Try.prog call k (fAt Try.f78 [1,1,0,1,0,0,1,0,1]) a H K) := at_cond (by kernel_rfl)
theorem n78_19 : gCode Try.prog call k (fAt Try.f78 [1,1,0,1,0,0,1,0,0]) a H K = K .normal a H := at_skip (by kernel_rfl)
theorem n78_20 : gCode Try.prog call k (fAt Try.f78 [1,1,0,1,0,0,1,1]) a H K = gCode Try.prog call k (fAt Try.f78 [1,1,0,1,0,0,1,1,0]) a H (hSeq (gCode Try.prog call k (fAt Try.f78 [1,1,0,1,0,0,1,1,1])) K) := at_seq (by kernel_rfl)
theorem n78_21 : gCode Try.prog call k (fAt Try.f78 [1,1,0,1,0,0,1,1,0]) a H K = gCode Try.prog call k (fAt Try.f78 [1,1,0,1,0,0,1,1,0,0]) a H (hBlock 1 K) := at_block (by kernel_rfl)
theorem n78_22 : gCode Try.prog call k (fAt Try.f78 [1,1,0,1,0,0,1,1,0,0]) a H K = gCode Try.prog call k (fAt Try.f78 [1,1,0,1,0,0,1,1,0,0,0]) a H (hSeq (gCode Try.prog call k (fAt Try.f78 [1,1,0,1,0,0,1,1,0,0,1])) K) := at_seq (by kernel_rfl)
theorem n78_23 : gCode Try.prog call k (fAt Try.f78 [1,1,0,1,0,0,1,1,0,0,0]) a H K = gOps Try.prog 0 call (opsAt (fAt Try.f78 [1,1,0,1,0,0,1,1,0,0,0])) ((opsAt (fAt Try.f78 [1,1,0,1,0,0,1,1,0,0,0])).drop 0) a H (K .normal) := at_region (by kernel_rfl)
theorem n78_24 : gCode Try.prog call k (fAt Try.f78 [1,1,0,1,0,0,1,1,0,0,1]) a H K = gCode Try.prog call k (fAt Try.f78 [1,1,0,1,0,0,1,1,0,0,1,0]) a H (hSeq (gCode Try.prog call k (fAt Try.f78 [1,1,0,1,0,0,1,1,0,0,1,1])) K) := at_seq (by kernel_rfl)
theorem n78_25 : gCode Try.prog call k (fAt Try.f78 [1,1,0,1,0,0,1,0,1]) a H K = K (.exit 0) a H := at_exit (by kernel_rfl)
theorem n78_26 : gCode Try.prog call k (fAt Try.f78 [1,1,0,1,0,0,1,1,0,0,1,0]) a H K = gOps Try.prog 0 call (opsAt (fAt Try.f78 [1,1,0,1,0,0,1,1,0,0,1,0])) ((opsAt (fAt Try.f78 [1,1,0,1,0,0,1,1,0,0,1,0])).drop 0) a H (K .normal) := at_region (by kernel_rfl)
theorem n78_27 : gCode Try.prog call k (fAt Try.f78 [1,1,1]) a H K = gCode Try.prog call k (fAt Try.f78 [1,1,1,0]) a H (hSeq (gCode Try.prog call k (fAt Try.f78 [1,1,1,1])) K) := at_seq (by kernel_rfl)
theorem n78_28 : gCode Try.prog call k (fAt Try.f78 [1,1,1,0]) a H K = gOps Try.prog 0 call (opsAt (fAt Try.f78 [1,1,1,0])) ((opsAt (fAt Try.f78 [1,1,1,0])).drop 0) a H (K .normal) := at_region (by kernel_rfl)
theorem n78_29 : gCode Try.prog call k (fAt Try.f78 [1,1,1,1]) a H K = K .ret a H := at_ret (by kernel_rfl)
theorem n78_30 : gCode Try.prog call k (fAt Try.f78 [1,1,0,1,0,0,1,1,0,0,1,1]) a H K = onBool (asB (GA.eval a (.tmp 48))) (gCode Try.prog call k (fAt Try.f78 [1,1,0,1,0,0,1,1,0,0,1,1,0]) a H K) (gCode Try.prog call k (fAt Try.f78 [1,1,0,1,0,0,1,1,0,0,1,1,1]) a H K) := at_cond (by kernel_rfl)
theorem n78_31 : gCode Try.prog call k (fAt Try.f78 [1,1,0,1,0,0,1,1,0,0,1,1,0]) a H K = gCode Try.prog call k (fAt Try.f78 [1,1,0,1,0,0,1,1,0,0,1,1,0,0]) a H (hSeq (gCode Try.prog call k (fAt Try.f78 [1,1,0,1,0,0,1,1,0,0,1,1,0,1])) K) := at_seq (by kernel_rfl)
theorem n78_32 : gCode Try.prog call k (fAt Try.f78 [1,1,0,1,0,0,1,1,0,0,1,1,0,0]) a H K = gOps Try.prog 0 call (opsAt (fAt Try.f78 [1,1,0,1,0,0,1,1,0,0,1,1,0,0])) ((opsAt (fAt Try.f78 [1,1,0,1,0,0,1,1,0,0,1,1,0,0])).drop 0) a H (K .normal) := at_region (by kernel_rfl)
theorem n78_33 : gCode Try.prog call k (fAt Try.f78 [1,1,0,1,0,0,1,1,0,0,1,1,0,1]) a H K = K .ret a H := at_ret (by kernel_rfl)
theorem n78_34 : gCode Try.prog call k (fAt Try.f78 [1,1,0,1,0,0,1,1,0,0,1,1,1]) a H K = K .normal a H := at_skip (by kernel_rfl)
theorem n78_35 : gCode Try.prog call k (fAt Try.f78 [1,1,0,1,0,0,1,1,1]) a H K = gOps Try.prog 0 call (opsAt (fAt Try.f78 [1,1,0,1,0,0,1,1,1])) ((opsAt (fAt Try.f78 [1,1,0,1,0,0,1,1,1])).drop 0) a H (K .normal) := at_region (by kernel_rfl)
theorem s78_0 : gOps Try.prog 0 call (opsAt (fAt Try.f78 [0])) ((opsAt (fAt Try.f78 [0])).drop 0) ((FF 55 fun _ => undef) |>.set 0 p0 |>.set 1 p1) H K' =
  K' ((FF 55 fun _ => undef) |>.set 0 p0 |>.set 1 p1 |>.set 2 (.pointer (some ⟨H.n, 0, none⟩)) |>.set 3 (.pointer (some ⟨(GH.push H (.row (Value.cells p0).toList 58 false)).n, 0, none⟩)) |>.set 4 (.bool false)) (GH.push (GH.push H (.row (Value.cells p0).toList 58 false)) (.row (Value.cells p1).toList 62 false)) := by kernel_rfl
theorem s78_1 : gOps Try.prog 2 call (opsAt (fAt Try.f78 [1,0,0])) (((opsAt (fAt Try.f78 [1,0,0])).drop 0).take 4) (FF 55 d) H K' =
  onV (oFieldAddr Try.prog 62 (d 3) 0) fun v1 =>
  onV (gLoad Try.prog 33 v1 H) fun v2 =>
  onV ((oBin Try.prog .gtr 33 v2 (.int .u8 1)).filter closed) fun v3 =>
  onGrd true v3 (K' ((FF 55 d) |>.set 7 v1 |>.set 8 v2 |>.set 9 v3 |>.set 10 v3) H) := by kernel_rfl
theorem s78_2 : gOps Try.prog 2 call (opsAt (fAt Try.f78 [1,0,0])) ((opsAt (fAt Try.f78 [1,0,0])).drop 4) ((FF 55 d) |>.set 10 (.bool true)) H K' =
  K' ((FF 55 d) |>.set 10 (.bool true) |>.set 11 undef |>.set 12 undef |>.set 13 undef |>.set 14 undef |>.set 15 (.bool true) |>.set 16 (.bool true) |>.set 17 undef |>.set 18 undef |>.set 19 undef |>.set 20 undef |>.set 21 (.bool true) |>.set 22 (.bool true) |>.set 23 undef |>.set 24 undef |>.set 25 undef |>.set 26 undef |>.set 27 undef |>.set 28 undef |>.set 29 undef |>.set 30 undef |>.set 31 (.bool true)) H := by kernel_rfl
theorem s78_3 : gOps Try.prog 2 call (opsAt (fAt Try.f78 [1,0,0])) (((opsAt (fAt Try.f78 [1,0,0])).drop 4).take 6) ((FF 55 d) |>.set 10 (.bool false)) H K' =
  onV (oFieldAddr Try.prog 62 (d 3) 2) fun v1 =>
  onV (gLoad Try.prog 26 v1 H) fun v2 =>
  onV (oLen Try.prog 26 v2) fun v3 =>
  onV ((oBin Try.prog .gtr 3 v3 (.int .i64 4)).filter closed) fun v4 =>
  onGrd true v4 (K' ((FF 55 d) |>.set 10 (.bool false) |>.set 11 v1 |>.set 12 v2 |>.set 13 v3 |>.set 14 v4 |>.set 15 v4 |>.set 16 v4) H) := by kernel_rfl
theorem s78_4 : gOps Try.prog 0 call (opsAt (fAt Try.f78 [1,0,1,0,0])) ((opsAt (fAt Try.f78 [1,0,1,0,0])).drop 0) (FF 55 d) H K' =
  K' ((FF 55 d) |>.set 4 (.bool false)) H := by kernel_rfl
theorem s78_5 : gOps Try.prog 2 call (opsAt (fAt Try.f78 [1,0,0])) ((opsAt (fAt Try.f78 [1,0,0])).drop 10) ((FF 55 d) |>.set 16 (.bool true)) H K' =
  K' ((FF 55 d) |>.set 16 (.bool true) |>.set 17 undef |>.set 18 undef |>.set 19 undef |>.set 20 undef |>.set 21 (.bool true) |>.set 22 (.bool true) |>.set 23 undef |>.set 24 undef |>.set 25 undef |>.set 26 undef |>.set 27 undef |>.set 28 undef |>.set 29 undef |>.set 30 undef |>.set 31 (.bool true)) H := by kernel_rfl
theorem s78_6 : gOps Try.prog 2 call (opsAt (fAt Try.f78 [1,0,0])) (((opsAt (fAt Try.f78 [1,0,0])).drop 10).take 6) ((FF 55 d) |>.set 16 (.bool false)) H K' =
  onV (oFieldAddr Try.prog 62 (d 3) 3) fun v1 =>
  onV (gLoad Try.prog 60 v1 H) fun v2 =>
  onV (oLen Try.prog 60 v2) fun v3 =>
  onV ((oBin Try.prog .gtr 3 v3 (.int .i64 4096)).filter closed) fun v4 =>
  onGrd true v4 (K' ((FF 55 d) |>.set 16 (.bool false) |>.set 17 v1 |>.set 18 v2 |>.set 19 v3 |>.set 20 v4 |>.set 21 v4 |>.set 22 v4) H) := by kernel_rfl
theorem s78_7 : gOps Try.prog 2 call (opsAt (fAt Try.f78 [1,0,0])) ((opsAt (fAt Try.f78 [1,0,0])).drop 16) ((FF 55 d) |>.set 22 (.bool true)) H K' =
  K' ((FF 55 d) |>.set 22 (.bool true) |>.set 23 undef |>.set 24 undef |>.set 25 undef |>.set 26 undef |>.set 27 undef |>.set 28 undef |>.set 29 undef |>.set 30 undef |>.set 31 (.bool true)) H := by kernel_rfl
theorem s78_8 : gOps Try.prog 0 call (opsAt (fAt Try.f78 [1,0,1,0,0])) ((opsAt (fAt Try.f78 [1,0,1,0,0])).drop 0) ((FF 55 d) |>.set 22 (.bool true) |>.set 23 undef |>.set 24 undef |>.set 25 undef |>.set 26 undef |>.set 27 undef |>.set 28 undef |>.set 29 undef |>.set 30 undef |>.set 31 (.bool true)) H K' =
  K' ((FF 55 d) |>.set 22 (.bool true) |>.set 23 undef |>.set 24 undef |>.set 25 undef |>.set 26 undef |>.set 27 undef |>.set 28 undef |>.set 29 undef |>.set 30 undef |>.set 31 (.bool true) |>.set 4 (.bool false)) H := by kernel_rfl
theorem s78_9 : gOps Try.prog 2 call (opsAt (fAt Try.f78 [1,0,0])) ((opsAt (fAt Try.f78 [1,0,0])).drop 16) ((FF 55 d) |>.set 22 (.bool false)) H K' =
  onV (oFieldAddr Try.prog 62 (d 3) 3) fun v1 =>
  onV (gLoad Try.prog 60 v1 H) fun v2 =>
  onCall 2 call (.func (.func 143) #[] #[]) [v2] H fun v3 H4 =>
  onV (oLen Try.prog 60 v3) fun v5 =>
  onV (oFieldAddr Try.prog 62 (d 3) 3) fun v6 =>
  onV (gLoad Try.prog 60 v6 H4) fun v7 =>
  onV (oLen Try.prog 60 v7) fun v8 =>
  onV ((oBin Try.prog .neq 3 v5 v8).filter closed) fun v9 =>
  K' ((FF 55 d) |>.set 22 (.bool false) |>.set 23 v1 |>.set 24 v2 |>.set 25 v3 |>.set 26 v5 |>.set 27 v6 |>.set 28 v7 |>.set 29 v8 |>.set 30 v9 |>.set 31 v9) H4 := by kernel_rfl
theorem s78_10 : gOps Try.prog 0 call (opsAt (fAt Try.f78 [1,0,1,0,0])) ((opsAt (fAt Try.f78 [1,0,1,0,0])).drop 0) ((FF 55 d) |>.set 22 (.bool false) |>.set 23 v1 |>.set 24 v2 |>.set 25 v3 |>.set 26 v5 |>.set 27 v6 |>.set 28 v7 |>.set 29 v8 |>.set 30 v9 |>.set 31 v9) H4 K' =
  K' ((FF 55 d) |>.set 22 (.bool false) |>.set 23 v1 |>.set 24 v2 |>.set 25 v3 |>.set 26 v5 |>.set 27 v6 |>.set 28 v7 |>.set 29 v8 |>.set 30 v9 |>.set 31 v9 |>.set 4 (.bool false)) H4 := by kernel_rfl
theorem s78_11 : gOps Try.prog 0 call (opsAt (fAt Try.f78 [1,1,0,0])) ((opsAt (fAt Try.f78 [1,1,0,0])).drop 0) (FF 55 d) H K' =
  onV (oFieldAddr Try.prog 62 (d 3) 3) fun v1 =>
  onV (gLoad Try.prog 60 v1 H) fun v2 =>
  onV (oLen Try.prog 60 v2) fun v3 =>
  K' ((FF 55 d) |>.set 32 v1 |>.set 33 v2 |>.set 34 v3 |>.set 35 (.int .i64 0)) H := by kernel_rfl
theorem s78_12 : gOps Try.prog 0 call (opsAt (fAt Try.f78 [1,1,0,1,0,0,0])) ((opsAt (fAt Try.f78 [1,1,0,1,0,0,0])).drop 0) (FF 55 d) H K' =
  onV ((oBin Try.prog .lss 3 (d 35) (d 34)).filter closed) fun v1 =>
  K' ((FF 55 d) |>.set 36 v1) H := by kernel_rfl
theorem s78_13 : gOps Try.prog 0 call (opsAt (fAt Try.f78 [1,1,0,1,0,0,1,1,0,0,0])) ((opsAt (fAt Try.f78 [1,1,0,1,0,0,1,1,0,0,0])).drop 0) ((FF 55 d) |>.set 36 v1) H K' =
  onV (oIndexAddr Try.prog 60 (d 33) (d 35)) fun v2 =>
  onV (gLoad Try.prog 157 v2 H) fun v3 =>
  onH (gStore Try.prog 157 (.pointer (some ⟨H.n, 0, none⟩)) v3 (GH.push H (.row [(.int .u8 0), (.int .i64 0), (.bool false), (.int .u8 0)] 157 false))) fun H4 =>
  K' ((FF 55 d) |>.set 36 v1 |>.set 37 v2 |>.set 38 v3 |>.set 6 (.pointer (some ⟨H.n, 0, none⟩))) H4 := by kernel_rfl
theorem s78_14 : gOps Try.prog 0 call (opsAt (fAt Try.f78 [1,1,0,1,0,0,1,1,0,0,1,0])) (((opsAt (fAt Try.f78 [1,1,0,1,0,0,1,1,0,0,1,0])).drop 0).take 4) (FF 55 d) H K' =
  onV (oFieldAddr Try.prog 157 (d 6) 2) fun v1 =>
  onV (gLoad Try.prog 155 v1 H) fun v2 =>
  onV ((oBin Try.prog .gtr 155 v2 (.int .u8 1)).filter closed) fun v3 =>
  onGrd true v3 (K' ((FF 55 d) |>.set 39 v1 |>.set 40 v2 |>.set 41 v3 |>.set 42 v3) H) := by kernel_rfl
theorem s78_15 : gOps Try.prog 0 call (opsAt (fAt Try.f78 [1,1,1,0])) ((opsAt (fAt Try.f78 [1,1,1,0])).drop 0) (FF 55 d) H K' =
  onV (oFieldAddr Try.prog 62 (d 3) 2) fun v1 =>
  onV (gLoad Try.prog 26 v1 H) fun v2 =>
  onCall 0 call (.func (.func 46) #[] #[]) [v2, (.func (.func 144) #[] #[(d 2)])] H fun v3 H4 =>
  onV ((oUn Try.prog .not v3).filter closed) fun v5 =>
  K' ((FF 55 d) |>.set 50 v1 |>.set 51 v2 |>.set 52 (.func (.func 144) #[] #[(d 2)]) |>.set 53 v3 |>.set 54 v5 |>.set 4 v5) H4 := by kernel_rfl
theorem s78_16 : gOps Try.prog 0 call (opsAt (fAt Try.f78 [1,1,0,1,0,0,1,1,0,0,1,0])) ((opsAt (fAt Try.f78 [1,1,0,1,0,0,1,1,0,0,1,0])).drop 4) ((FF 55 d) |>.set 42 (.bool true)) H K' =
  K' ((FF 55 d) |>.set 42 (.bool true) |>.set 43 undef |>.set 44 undef |>.set 45 undef |>.set 46 undef |>.set 47 undef |>.set 48 (.bool true)) H := by kernel_rfl
theorem s78_17 : gOps Try.prog 0 call (opsAt (fAt Try.f78 [1,1,0,1,0,0,1,1,0,0,1,1,0,0])) ((opsAt (fAt Try.f78 [1,1,0,1,0,0,1,1,0,0,1,1,0,0])).drop 0) ((FF 55 d) |>.set 42 (.bool true) |>.set 43 undef |>.set 44 undef |>.set 45 undef |>.set 46 undef |>.set 47 undef |>.set 48 (.bool true)) H K' =
  K' ((FF 55 d) |>.set 42 (.bool true) |>.set 43 undef |>.set 44 undef |>.set 45 undef |>.set 46 undef |>.set 47 undef |>.set 48 (.bool true) |>.set 4 (.bool false)) H := by kernel_rfl
theorem s78_18 : gOps Try.prog 0 call (opsAt (fAt Try.f78 [1,1,0,1,0,0,1,1,0,0,1,0])) ((opsAt (fAt Try.f78 [1,1,0,1,0,0,1,1,0,0,1,0])).drop 4) ((FF 55 d) |>.set 42 (.bool false)) H K' =
  onV (gLoad Try.prog 58 (d 2) H) fun v1 =>
  onV (oFieldAddr Try.prog 157 (d 6) 0) fun v2 =>
  onV (gLoad Try.prog 29 v2 H) fun v3 =>
  onCall 0 call (.func (.func 135) #[] #[]) [v1, v3] H fun v4 H5 =>
  onV ((oUn Try.prog .not v4).filter closed) fun v6 =>
  K' ((FF 55 d) |>.set 42 (.bool false) |>.set 43 v1 |>.set 44 v2 |>.set 45 v3 |>.set 46 v4 |>.set 47 v6 |>.set 48 v6) H5 := by kernel_rfl
theorem s78_19 : gOps Try.prog 0 call (opsAt (fAt Try.f78 [1,1,0,1,0,0,1,1,0,0,1,1,0,0])) ((opsAt (fAt Try.f78 [1,1,0,1,0,0,1,1,0,0,1,1,0,0])).drop 0) ((FF 55 d) |>.set 42 (.bool false) |>.set 43 v1 |>.set 44 v2 |>.set 45 v3 |>.set 46 v4 |>.set 47 v6 |>.set 48 v6) H5 K' =
  K' ((FF 55 d) |>.set 42 (.bool false) |>.set 43 v1 |>.set 44 v2 |>.set 45 v3 |>.set 46 v4 |>.set 47 v6 |>.set 48 v6 |>.set 4 (.bool false)) H5 := by kernel_rfl
theorem s78_20 : gOps Try.prog 0 call (opsAt (fAt Try.f78 [1,1,0,1,0,0,1,1,1])) ((opsAt (fAt Try.f78 [1,1,0,1,0,0,1,1,1])).drop 0) ((FF 55 d) |>.set 42 (.bool false) |>.set 43 v1 |>.set 44 v2 |>.set 45 v3 |>.set 46 v4 |>.set 47 v6 |>.set 48 v6) H5 K' =
  onV ((oBin Try.prog .add 3 (d 35) (.int .i64 1)).filter closed) fun v7 =>
  K' ((FF 55 d) |>.set 42 (.bool false) |>.set 43 v1 |>.set 44 v2 |>.set 45 v3 |>.set 46 v4 |>.set 47 v6 |>.set 48 v6 |>.set 49 v7 |>.set 35 v7) H5 := by kernel_rfl
def f78_l4_P (ag : GA → GH → M (Value × GH)) (sg : Value → Value → Value → Value → Value → GH → M (Value × GH)) : Prop := ∀ (d : Nat → Value) (H : GH), ag (FF 55 d) H = sg (d 2) (d 3) (d 33) (d 34) (d 35) H
theorem f78_l4_at {ag : GA → GH → M (Value × GH)} {sg : Value → Value → Value → Value → Value → GH → M (Value × GH)} (h : f78_l4_P ag sg) : ag (FF 55 d) H = sg (d 2) (d 3) (d 33) (d 34) (d 35) H := h d H
noncomputable def f78_r2 (call : Handle) (k : Nat) (H : GH) : M (Value × GH) :=
  some [((.bool false), H)]
theorem f78_r2_eq (call : Handle) (k : Nat) : gCode Try.prog call k (fAt Try.f78 [1,0,1,0,0]) (FF 55 d) H (hSeq (gCode Try.prog call k (fAt Try.f78 [1,0,1,0,1])) (hSeq (gCode Try.prog call k (fAt Try.f78 [1,1])) (hFin Try.prog Try.f78))) = f78_r2 call k H := by
  unfold f78_r2
  rw [n78_7]
  rw [s78_4]
  rw [hSeq_n]
  rw [n78_8]
  rw [hSeq_r]
  kernel_rfl
noncomputable def f78_g6_4 (call : Handle) (k : Nat) (sg_l4 : Value → Value → Value → Value → Value → GH → M (Value × GH)) (x42 : Value) (x2 x3 x6 x33 x34 x35 : Value) (H : GH) : M (Value × GH) :=
 onBool (asB x42)
  (some [((.bool false), H)])
  (onV (gLoad Try.prog 58 x2 H) fun v1 =>
  onV (oFieldAddr Try.prog 157 x6 0) fun v2 =>
  onV (gLoad Try.prog 29 v2 H) fun v3 =>
  onCall 0 call (.func (.func 135) #[] #[]) [v1, v3] H fun v4 H5 =>
  onV ((oUn Try.prog .not v4).filter closed) fun v6 =>
  onBool (asB v6)
  (some [((.bool false), H5)])
  (onV ((oBin Try.prog .add 3 x35 (.int .i64 1)).filter closed) fun v7 =>
  (sg_l4 x2 x3 x33 x34 v7 H5)))
theorem f78_g6_4_true (call : Handle) (k : Nat) (ag_l4 : GA → GH → M (Value × GH)) (sg_l4 : Value → Value → Value → Value → Value → GH → M (Value × GH)) (h_l4 : f78_l4_P ag_l4 sg_l4) : gOps Try.prog 0 call (opsAt (fAt Try.f78 [1,1,0,1,0,0,1,1,0,0,1,0])) ((opsAt (fAt Try.f78 [1,1,0,1,0,0,1,1,0,0,1,0])).drop 4) ((FF 55 d) |>.set 42 (.bool true)) H ((hSeq (gCode Try.prog call k (fAt Try.f78 [1,1,0,1,0,0,1,1,0,0,1,1])) (hBlock 1 (hSeq (gCode Try.prog call k (fAt Try.f78 [1,1,0,1,0,0,1,1,1])) (hLoop ag_l4 (hBlock 0 (hSeq (gCode Try.prog call k (fAt Try.f78 [1,1,1])) (hFin Try.prog Try.f78))))))) .normal) =
  some [((.bool false), H)] := by
  rw [s78_16]
  rw [hSeq_n]
  rw [n78_30]
  refine (onBool_tt (by kernel_rfl)).trans ?_
  rw [n78_31]
  rw [n78_32]
  rw [s78_17]
  rw [hSeq_n]
  rw [n78_33]
  rw [hBlock_r, hSeq_r, hLoop_r, hBlock_r, hSeq_r]
  kernel_rfl
theorem f78_g6_4_false (call : Handle) (k : Nat) (ag_l4 : GA → GH → M (Value × GH)) (sg_l4 : Value → Value → Value → Value → Value → GH → M (Value × GH)) (h_l4 : f78_l4_P ag_l4 sg_l4) : gOps Try.prog 0 call (opsAt (fAt Try.f78 [1,1,0,1,0,0,1,1,0,0,1,0])) ((opsAt (fAt Try.f78 [1,1,0,1,0,0,1,1,0,0,1,0])).drop 4) ((FF 55 d) |>.set 42 (.bool false)) H ((hSeq (gCode Try.prog call k (fAt Try.f78 [1,1,0,1,0,0,1,1,0,0,1,1])) (hBlock 1 (hSeq (gCode Try.prog call k (fAt Try.f78 [1,1,0,1,0,0,1,1,1])) (hLoop ag_l4 (hBlock 0 (hSeq (gCode Try.prog call k (fAt Try.f78 [1,1,1])) (hFin Try.prog Try.f78))))))) .normal) =
  onV (gLoad Try.prog 58 (d 2) H) fun v1 =>
  onV (oFieldAddr Try.prog 157 (d 6) 0) fun v2 =>
  onV (gLoad Try.prog 29 v2 H) fun v3 =>
  onCall 0 call (.func (.func 135) #[] #[]) [v1, v3] H fun v4 H5 =>
  onV ((oUn Try.prog .not v4).filter closed) fun v6 =>
  onBool (asB v6)
  (some [((.bool false), H5)])
  (onV ((oBin Try.prog .add 3 (d 35) (.int .i64 1)).filter closed) fun v7 =>
  (sg_l4 (d 2) (d 3) (d 33) (d 34) v7 H5)) := by
  rw [s78_18]
  refine onV_c fun v1 => ?_
  refine onV_c fun v2 => ?_
  refine onV_c fun v3 => ?_
  refine onCall_c fun v4 H5 => ?_
  refine onV_c fun v6 => ?_
  rw [hSeq_n]
  rw [n78_30]
  refine onBool_cc (by kernel_rfl) ?_ ?_
  · rw [n78_31]
    rw [n78_32]
    rw [s78_19]
    rw [hSeq_n]
    rw [n78_33]
    rw [hBlock_r, hSeq_r, hLoop_r, hBlock_r, hSeq_r]
    kernel_rfl
  · rw [n78_34]
    rw [hBlock_n]
    rw [hSeq_n]
    rw [n78_35]
    rw [s78_20]
    refine onV_c fun v7 => ?_
    rw [hLoop_n]
    rw [show ((FF 55 d) |>.set 42 (.bool false) |>.set 43 v1 |>.set 44 v2 |>.set 45 v3 |>.set 46 v4 |>.set 47 v6 |>.set 48 v6 |>.set 49 v7 |>.set 35 v7) = (FF 55 (gf ((FF 55 d) |>.set 42 (.bool false) |>.set 43 v1 |>.set 44 v2 |>.set 45 v3 |>.set 46 v4 |>.set 47 v6 |>.set 48 v6 |>.set 49 v7 |>.set 35 v7))) from by kernel_rfl]
    exact (f78_l4_at (d := gf ((FF 55 d) |>.set 42 (.bool false) |>.set 43 v1 |>.set 44 v2 |>.set 45 v3 |>.set 46 v4 |>.set 47 v6 |>.set 48 v6 |>.set 49 v7 |>.set 35 v7)) h_l4).trans (by kernel_rfl)
theorem f78_g6_4_eq (call : Handle) (k : Nat) (ag_l4 : GA → GH → M (Value × GH)) (sg_l4 : Value → Value → Value → Value → Value → GH → M (Value × GH)) (h_l4 : f78_l4_P ag_l4 sg_l4) : onGrd true xg (gOps Try.prog 0 call (opsAt (fAt Try.f78 [1,1,0,1,0,0,1,1,0,0,1,0])) ((opsAt (fAt Try.f78 [1,1,0,1,0,0,1,1,0,0,1,0])).drop 4) ((FF 55 d) |>.set 42 xg) H ((hSeq (gCode Try.prog call k (fAt Try.f78 [1,1,0,1,0,0,1,1,0,0,1,1])) (hBlock 1 (hSeq (gCode Try.prog call k (fAt Try.f78 [1,1,0,1,0,0,1,1,1])) (hLoop ag_l4 (hBlock 0 (hSeq (gCode Try.prog call k (fAt Try.f78 [1,1,1])) (hFin Try.prog Try.f78))))))) .normal)) =
  f78_g6_4 call k sg_l4 xg (d 2) (d 3) (d 6) (d 33) (d 34) (d 35) H := by
  cases xg with
  | bool b => cases b with
    | true => exact onGrd_b.trans (f78_g6_4_true call k ag_l4 sg_l4 h_l4)
    | false => exact onGrd_b.trans (f78_g6_4_false call k ag_l4 sg_l4 h_l4)
  | _ => kernel_rfl
noncomputable def f78_r6 (call : Handle) (k : Nat) (sg_l4 : Value → Value → Value → Value → Value → GH → M (Value × GH)) (x2 x3 x6 x33 x34 x35 : Value) (H : GH) : M (Value × GH) :=
  onV (oFieldAddr Try.prog 157 x6 2) fun v1 =>
  onV (gLoad Try.prog 155 v1 H) fun v2 =>
  onV ((oBin Try.prog .gtr 155 v2 (.int .u8 1)).filter closed) fun v3 =>
  (f78_g6_4 call k (sg_l4) v3 x2 x3 x6 x33 x34 x35 H)
theorem f78_r6_eq (call : Handle) (k : Nat) (ag_l4 : GA → GH → M (Value × GH)) (sg_l4 : Value → Value → Value → Value → Value → GH → M (Value × GH)) (h_l4 : f78_l4_P ag_l4 sg_l4) : gCode Try.prog call k (fAt Try.f78 [1,1,0,1,0,0,1,1,0,0,1,0]) (FF 55 d) H (hSeq (gCode Try.prog call k (fAt Try.f78 [1,1,0,1,0,0,1,1,0,0,1,1])) (hBlock 1 (hSeq (gCode Try.prog call k (fAt Try.f78 [1,1,0,1,0,0,1,1,1])) (hLoop ag_l4 (hBlock 0 (hSeq (gCode Try.prog call k (fAt Try.f78 [1,1,1])) (hFin Try.prog Try.f78))))))) = f78_r6 call k sg_l4 (d 2) (d 3) (d 6) (d 33) (d 34) (d 35) H := by
  unfold f78_r6
  rw [n78_26]
  rw [gOps_split 0 4, s78_14]
  refine onV_c fun v1 => ?_
  refine onV_c fun v2 => ?_
  refine onV_c fun v3 => ?_
  rw [show ((FF 55 d) |>.set 39 v1 |>.set 40 v2 |>.set 41 v3 |>.set 42 v3) = ((FF 55 (gf ((FF 55 d) |>.set 39 v1 |>.set 40 v2 |>.set 41 v3 |>.set 42 v3))) |>.set 42 v3) from by kernel_rfl]
  exact (f78_g6_4_eq (d := gf ((FF 55 d) |>.set 39 v1 |>.set 40 v2 |>.set 41 v3 |>.set 42 v3)) call k ag_l4 sg_l4 h_l4).trans (by kernel_rfl)
noncomputable def f78_r9 (call : Handle) (k : Nat) (x2 x3 : Value) (H : GH) : M (Value × GH) :=
  onV (oFieldAddr Try.prog 62 x3 2) fun v1 =>
  onV (gLoad Try.prog 26 v1 H) fun v2 =>
  onCall 0 call (.func (.func 46) #[] #[]) [v2, (.func (.func 144) #[] #[x2])] H fun v3 H4 =>
  onV ((oUn Try.prog .not v3).filter closed) fun v5 =>
  some [(v5, H4)]
theorem f78_r9_eq (call : Handle) (k : Nat) : gCode Try.prog call k (fAt Try.f78 [1,1,1]) (FF 55 d) H (hFin Try.prog Try.f78) = f78_r9 call k (d 2) (d 3) H := by
  unfold f78_r9
  rw [n78_27]
  rw [n78_28]
  rw [s78_15]
  refine onV_c fun v1 => ?_
  refine onV_c fun v2 => ?_
  refine onCall_c fun v3 H4 => ?_
  refine onV_c fun v5 => ?_
  rw [hSeq_n]
  rw [n78_29]
  kernel_rfl
noncomputable def f78_l4b (call : Handle) (k : Nat) (sg_l4 : Value → Value → Value → Value → Value → GH → M (Value × GH)) (x2 x3 x33 x34 x35 : Value) (H : GH) : M (Value × GH) :=
  onV ((oBin Try.prog .lss 3 x35 x34).filter closed) fun v1 =>
  onBool (asB v1)
  (onV (oIndexAddr Try.prog 60 x33 x35) fun v2 =>
  onV (gLoad Try.prog 157 v2 H) fun v3 =>
  onH (gStore Try.prog 157 (.pointer (some ⟨H.n, 0, none⟩)) v3 (GH.push H (.row [(.int .u8 0), (.int .i64 0), (.bool false), (.int .u8 0)] 157 false))) fun H4 =>
  (f78_r6 call k (sg_l4) x2 x3 (.pointer (some ⟨H.n, 0, none⟩)) x33 x34 x35 H4))
  ((f78_r9 call k x2 x3 H))
theorem f78_l4b_eq (call : Handle) (k : Nat) (ag_l4 : GA → GH → M (Value × GH)) (sg_l4 : Value → Value → Value → Value → Value → GH → M (Value × GH)) (h_l4 : f78_l4_P ag_l4 sg_l4) : gCode Try.prog call k (fAt Try.f78 [1,1,0,1,0,0]) (FF 55 d) H (hLoop ag_l4 (hBlock 0 (hSeq (gCode Try.prog call k (fAt Try.f78 [1,1,1])) (hFin Try.prog Try.f78)))) = f78_l4b call k sg_l4 (d 2) (d 3) (d 33) (d 34) (d 35) H := by
  unfold f78_l4b
  rw [n78_15]
  rw [n78_16]
  rw [s78_12]
  refine onV_c fun v1 => ?_
  rw [hSeq_n]
  rw [n78_17]
  rw [n78_18]
  refine onBool_cc (by kernel_rfl) ?_ ?_
  · rw [n78_19]
    rw [hSeq_n]
    rw [n78_20]
    rw [n78_21]
    rw [n78_22]
    rw [n78_23]
    rw [s78_13]
    refine onV_c fun v2 => ?_
    refine onV_c fun v3 => ?_
    refine onH_c fun H4 => ?_
    rw [hSeq_n]
    rw [n78_24]
    rw [show ((FF 55 d) |>.set 36 v1 |>.set 37 v2 |>.set 38 v3 |>.set 6 (.pointer (some ⟨H.n, 0, none⟩))) = (FF 55 (gf ((FF 55 d) |>.set 36 v1 |>.set 37 v2 |>.set 38 v3 |>.set 6 (.pointer (some ⟨H.n, 0, none⟩))))) from by kernel_rfl]
    exact (f78_r6_eq (d := gf ((FF 55 d) |>.set 36 v1 |>.set 37 v2 |>.set 38 v3 |>.set 6 (.pointer (some ⟨H.n, 0, none⟩)))) call k ag_l4 sg_l4 h_l4).trans (by kernel_rfl)
  · rw [n78_25]
    rw [hSeq_e, hLoop_e, hBlock_hit]
    rw [hSeq_n]
    rw [show ((FF 55 d) |>.set 36 v1) = (FF 55 (gf ((FF 55 d) |>.set 36 v1))) from by kernel_rfl]
    exact (f78_r9_eq (d := gf ((FF 55 d) |>.set 36 v1)) call k).trans (by kernel_rfl)
noncomputable def f78_l4 (call : Handle) (k : Nat) : Nat → Value → Value → Value → Value → Value → GH → M (Value × GH)
  | 0, _, _, _, _, _, _ => none
  | r + 1, x2, x3, x33, x34, x35, H => f78_l4b call k (f78_l4 call k r) x2 x3 x33 x34 x35 H
theorem f78_l4_eq (call : Handle) (k : Nat) : ∀ (r : Nat), f78_l4_P (gLoop (gCode Try.prog call k (fAt Try.f78 [1,1,0,1,0,0])) (hBlock 0 (hSeq (gCode Try.prog call k (fAt Try.f78 [1,1,1])) (hFin Try.prog Try.f78))) r) (f78_l4 call k r) := by
  intro r
  induction r with
  | zero => unfold f78_l4_P; intros; rfl
  | succ r ih => unfold f78_l4_P; intros; exact f78_l4b_eq call k _ _ ih
noncomputable def f78_r3 (call : Handle) (k : Nat) (x2 x3 : Value) (H : GH) : M (Value × GH) :=
  onV (oFieldAddr Try.prog 62 x3 3) fun v1 =>
  onV (gLoad Try.prog 60 v1 H) fun v2 =>
  onV (oLen Try.prog 60 v2) fun v3 =>
  (f78_l4 call k k x2 x3 v2 v3 (.int .i64 0) H)
theorem f78_r3_eq (call : Handle) (k : Nat) : gCode Try.prog call k (fAt Try.f78 [1,1,0,0]) (FF 55 d) H (hSeq (gCode Try.prog call k (fAt Try.f78 [1,1,0,1])) (hSeq (gCode Try.prog call k (fAt Try.f78 [1,1,1])) (hFin Try.prog Try.f78))) = f78_r3 call k (d 2) (d 3) H := by
  unfold f78_r3
  rw [n78_12]
  rw [s78_11]
  refine onV_c fun v1 => ?_
  refine onV_c fun v2 => ?_
  refine onV_c fun v3 => ?_
  rw [hSeq_n]
  rw [n78_13]
  rw [n78_14]
  rw [show ((FF 55 d) |>.set 32 v1 |>.set 33 v2 |>.set 34 v3 |>.set 35 (.int .i64 0)) = (FF 55 (gf ((FF 55 d) |>.set 32 v1 |>.set 33 v2 |>.set 34 v3 |>.set 35 (.int .i64 0)))) from by kernel_rfl]
  exact (f78_l4_at (d := gf ((FF 55 d) |>.set 32 v1 |>.set 33 v2 |>.set 34 v3 |>.set 35 (.int .i64 0))) (f78_l4_eq call k k)).trans (by kernel_rfl)
noncomputable def f78_g1_16 (call : Handle) (k : Nat) (x22 : Value) (x2 x3 : Value) (H : GH) : M (Value × GH) :=
 onBool (asB x22)
  (some [((.bool false), H)])
  (onV (oFieldAddr Try.prog 62 x3 3) fun v1 =>
  onV (gLoad Try.prog 60 v1 H) fun v2 =>
  onCall 2 call (.func (.func 143) #[] #[]) [v2] H fun v3 H4 =>
  onV (oLen Try.prog 60 v3) fun v5 =>
  onV (oFieldAddr Try.prog 62 x3 3) fun v6 =>
  onV (gLoad Try.prog 60 v6 H4) fun v7 =>
  onV (oLen Try.prog 60 v7) fun v8 =>
  onV ((oBin Try.prog .neq 3 v5 v8).filter closed) fun v9 =>
  onBool (asB v9)
  (some [((.bool false), H4)])
  ((f78_r3 call k x2 x3 H4)))
theorem f78_g1_16_true (call : Handle) (k : Nat) : gOps Try.prog 2 call (opsAt (fAt Try.f78 [1,0,0])) ((opsAt (fAt Try.f78 [1,0,0])).drop 16) ((FF 55 d) |>.set 22 (.bool true)) H ((hSeq (gCode Try.prog call k (fAt Try.f78 [1,0,1])) (hSeq (gCode Try.prog call k (fAt Try.f78 [1,1])) (hFin Try.prog Try.f78))) .normal) =
  some [((.bool false), H)] := by
  rw [s78_7]
  rw [hSeq_n]
  rw [n78_5]
  refine (onBool_tt (by kernel_rfl)).trans ?_
  rw [n78_6]
  rw [n78_7]
  rw [s78_8]
  rw [hSeq_n]
  rw [n78_8]
  rw [hSeq_r]
  kernel_rfl
theorem f78_g1_16_false (call : Handle) (k : Nat) : gOps Try.prog 2 call (opsAt (fAt Try.f78 [1,0,0])) ((opsAt (fAt Try.f78 [1,0,0])).drop 16) ((FF 55 d) |>.set 22 (.bool false)) H ((hSeq (gCode Try.prog call k (fAt Try.f78 [1,0,1])) (hSeq (gCode Try.prog call k (fAt Try.f78 [1,1])) (hFin Try.prog Try.f78))) .normal) =
  onV (oFieldAddr Try.prog 62 (d 3) 3) fun v1 =>
  onV (gLoad Try.prog 60 v1 H) fun v2 =>
  onCall 2 call (.func (.func 143) #[] #[]) [v2] H fun v3 H4 =>
  onV (oLen Try.prog 60 v3) fun v5 =>
  onV (oFieldAddr Try.prog 62 (d 3) 3) fun v6 =>
  onV (gLoad Try.prog 60 v6 H4) fun v7 =>
  onV (oLen Try.prog 60 v7) fun v8 =>
  onV ((oBin Try.prog .neq 3 v5 v8).filter closed) fun v9 =>
  onBool (asB v9)
  (some [((.bool false), H4)])
  ((f78_r3 call k (d 2) (d 3) H4)) := by
  rw [s78_9]
  refine onV_c fun v1 => ?_
  refine onV_c fun v2 => ?_
  refine onCall_c fun v3 H4 => ?_
  refine onV_c fun v5 => ?_
  refine onV_c fun v6 => ?_
  refine onV_c fun v7 => ?_
  refine onV_c fun v8 => ?_
  refine onV_c fun v9 => ?_
  rw [hSeq_n]
  rw [n78_5]
  refine onBool_cc (by kernel_rfl) ?_ ?_
  · rw [n78_6]
    rw [n78_7]
    rw [s78_10]
    rw [hSeq_n]
    rw [n78_8]
    rw [hSeq_r]
    kernel_rfl
  · rw [n78_9]
    rw [hSeq_n]
    rw [n78_10]
    rw [n78_11]
    rw [show ((FF 55 d) |>.set 22 (.bool false) |>.set 23 v1 |>.set 24 v2 |>.set 25 v3 |>.set 26 v5 |>.set 27 v6 |>.set 28 v7 |>.set 29 v8 |>.set 30 v9 |>.set 31 v9) = (FF 55 (gf ((FF 55 d) |>.set 22 (.bool false) |>.set 23 v1 |>.set 24 v2 |>.set 25 v3 |>.set 26 v5 |>.set 27 v6 |>.set 28 v7 |>.set 29 v8 |>.set 30 v9 |>.set 31 v9))) from by kernel_rfl]
    exact (f78_r3_eq (d := gf ((FF 55 d) |>.set 22 (.bool false) |>.set 23 v1 |>.set 24 v2 |>.set 25 v3 |>.set 26 v5 |>.set 27 v6 |>.set 28 v7 |>.set 29 v8 |>.set 30 v9 |>.set 31 v9)) call k).trans (by kernel_rfl)
theorem f78_g1_16_eq (call : Handle) (k : Nat) : onGrd true xg (gOps Try.prog 2 call (opsAt (fAt Try.f78 [1,0,0])) ((opsAt (fAt Try.f78 [1,0,0])).drop 16) ((FF 55 d) |>.set 22 xg) H ((hSeq (gCode Try.prog call k (fAt Try.f78 [1,0,1])) (hSeq (gCode Try.prog call k (fAt Try.f78 [1,1])) (hFin Try.prog Try.f78))) .normal)) =
  f78_g1_16 call k xg (d 2) (d 3) H := by
  cases xg with
  | bool b => cases b with
    | true => exact onGrd_b.trans (f78_g1_16_true call k)
    | false => exact onGrd_b.trans (f78_g1_16_false call k)
  | _ => kernel_rfl
noncomputable def f78_g1_10 (call : Handle) (k : Nat) (x16 : Value) (x2 x3 : Value) (H : GH) : M (Value × GH) :=
 onBool (asB x16)
  ((f78_r2 call k H))
  (onV (oFieldAddr Try.prog 62 x3 3) fun v1 =>
  onV (gLoad Try.prog 60 v1 H) fun v2 =>
  onV (oLen Try.prog 60 v2) fun v3 =>
  onV ((oBin Try.prog .gtr 3 v3 (.int .i64 4096)).filter closed) fun v4 =>
  (f78_g1_16 call k v4 x2 x3 H))
theorem f78_g1_10_true (call : Handle) (k : Nat) : gOps Try.prog 2 call (opsAt (fAt Try.f78 [1,0,0])) ((opsAt (fAt Try.f78 [1,0,0])).drop 10) ((FF 55 d) |>.set 16 (.bool true)) H ((hSeq (gCode Try.prog call k (fAt Try.f78 [1,0,1])) (hSeq (gCode Try.prog call k (fAt Try.f78 [1,1])) (hFin Try.prog Try.f78))) .normal) =
  (f78_r2 call k H) := by
  rw [s78_5]
  rw [hSeq_n]
  rw [n78_5]
  refine (onBool_tt (by kernel_rfl)).trans ?_
  rw [n78_6]
  rw [show ((FF 55 d) |>.set 16 (.bool true) |>.set 17 undef |>.set 18 undef |>.set 19 undef |>.set 20 undef |>.set 21 (.bool true) |>.set 22 (.bool true) |>.set 23 undef |>.set 24 undef |>.set 25 undef |>.set 26 undef |>.set 27 undef |>.set 28 undef |>.set 29 undef |>.set 30 undef |>.set 31 (.bool true)) = (FF 55 (gf ((FF 55 d) |>.set 16 (.bool true) |>.set 17 undef |>.set 18 undef |>.set 19 undef |>.set 20 undef |>.set 21 (.bool true) |>.set 22 (.bool true) |>.set 23 undef |>.set 24 undef |>.set 25 undef |>.set 26 undef |>.set 27 undef |>.set 28 undef |>.set 29 undef |>.set 30 undef |>.set 31 (.bool true)))) from by kernel_rfl]
  exact (f78_r2_eq (d := gf ((FF 55 d) |>.set 16 (.bool true) |>.set 17 undef |>.set 18 undef |>.set 19 undef |>.set 20 undef |>.set 21 (.bool true) |>.set 22 (.bool true) |>.set 23 undef |>.set 24 undef |>.set 25 undef |>.set 26 undef |>.set 27 undef |>.set 28 undef |>.set 29 undef |>.set 30 undef |>.set 31 (.bool true))) call k).trans (by kernel_rfl)
theorem f78_g1_10_false (call : Handle) (k : Nat) : gOps Try.prog 2 call (opsAt (fAt Try.f78 [1,0,0])) ((opsAt (fAt Try.f78 [1,0,0])).drop 10) ((FF 55 d) |>.set 16 (.bool false)) H ((hSeq (gCode Try.prog call k (fAt Try.f78 [1,0,1])) (hSeq (gCode Try.prog call k (fAt Try.f78 [1,1])) (hFin Try.prog Try.f78))) .normal) =
  onV (oFieldAddr Try.prog 62 (d 3) 3) fun v1 =>
  onV (gLoad Try.prog 60 v1 H) fun v2 =>
  onV (oLen Try.prog 60 v2) fun v3 =>
  onV ((oBin Try.prog .gtr 3 v3 (.int .i64 4096)).filter closed) fun v4 =>
  (f78_g1_16 call k v4 (d 2) (d 3) H) := by
  rw [gOps_split 10 6, s78_6]
  refine onV_c fun v1 => ?_
  refine onV_c fun v2 => ?_
  refine onV_c fun v3 => ?_
  refine onV_c fun v4 => ?_
  rw [show ((FF 55 d) |>.set 16 (.bool false) |>.set 17 v1 |>.set 18 v2 |>.set 19 v3 |>.set 20 v4 |>.set 21 v4 |>.set 22 v4) = ((FF 55 (gf ((FF 55 d) |>.set 16 (.bool false) |>.set 17 v1 |>.set 18 v2 |>.set 19 v3 |>.set 20 v4 |>.set 21 v4 |>.set 22 v4))) |>.set 22 v4) from by kernel_rfl]
  exact (f78_g1_16_eq (d := gf ((FF 55 d) |>.set 16 (.bool false) |>.set 17 v1 |>.set 18 v2 |>.set 19 v3 |>.set 20 v4 |>.set 21 v4 |>.set 22 v4)) call k).trans (by kernel_rfl)
theorem f78_g1_10_eq (call : Handle) (k : Nat) : onGrd true xg (gOps Try.prog 2 call (opsAt (fAt Try.f78 [1,0,0])) ((opsAt (fAt Try.f78 [1,0,0])).drop 10) ((FF 55 d) |>.set 16 xg) H ((hSeq (gCode Try.prog call k (fAt Try.f78 [1,0,1])) (hSeq (gCode Try.prog call k (fAt Try.f78 [1,1])) (hFin Try.prog Try.f78))) .normal)) =
  f78_g1_10 call k xg (d 2) (d 3) H := by
  cases xg with
  | bool b => cases b with
    | true => exact onGrd_b.trans (f78_g1_10_true call k)
    | false => exact onGrd_b.trans (f78_g1_10_false call k)
  | _ => kernel_rfl
noncomputable def f78_g1_4 (call : Handle) (k : Nat) (x10 : Value) (x2 x3 : Value) (H : GH) : M (Value × GH) :=
 onBool (asB x10)
  ((f78_r2 call k H))
  (onV (oFieldAddr Try.prog 62 x3 2) fun v1 =>
  onV (gLoad Try.prog 26 v1 H) fun v2 =>
  onV (oLen Try.prog 26 v2) fun v3 =>
  onV ((oBin Try.prog .gtr 3 v3 (.int .i64 4)).filter closed) fun v4 =>
  (f78_g1_10 call k v4 x2 x3 H))
theorem f78_g1_4_true (call : Handle) (k : Nat) : gOps Try.prog 2 call (opsAt (fAt Try.f78 [1,0,0])) ((opsAt (fAt Try.f78 [1,0,0])).drop 4) ((FF 55 d) |>.set 10 (.bool true)) H ((hSeq (gCode Try.prog call k (fAt Try.f78 [1,0,1])) (hSeq (gCode Try.prog call k (fAt Try.f78 [1,1])) (hFin Try.prog Try.f78))) .normal) =
  (f78_r2 call k H) := by
  rw [s78_2]
  rw [hSeq_n]
  rw [n78_5]
  refine (onBool_tt (by kernel_rfl)).trans ?_
  rw [n78_6]
  rw [show ((FF 55 d) |>.set 10 (.bool true) |>.set 11 undef |>.set 12 undef |>.set 13 undef |>.set 14 undef |>.set 15 (.bool true) |>.set 16 (.bool true) |>.set 17 undef |>.set 18 undef |>.set 19 undef |>.set 20 undef |>.set 21 (.bool true) |>.set 22 (.bool true) |>.set 23 undef |>.set 24 undef |>.set 25 undef |>.set 26 undef |>.set 27 undef |>.set 28 undef |>.set 29 undef |>.set 30 undef |>.set 31 (.bool true)) = (FF 55 (gf ((FF 55 d) |>.set 10 (.bool true) |>.set 11 undef |>.set 12 undef |>.set 13 undef |>.set 14 undef |>.set 15 (.bool true) |>.set 16 (.bool true) |>.set 17 undef |>.set 18 undef |>.set 19 undef |>.set 20 undef |>.set 21 (.bool true) |>.set 22 (.bool true) |>.set 23 undef |>.set 24 undef |>.set 25 undef |>.set 26 undef |>.set 27 undef |>.set 28 undef |>.set 29 undef |>.set 30 undef |>.set 31 (.bool true)))) from by kernel_rfl]
  exact (f78_r2_eq (d := gf ((FF 55 d) |>.set 10 (.bool true) |>.set 11 undef |>.set 12 undef |>.set 13 undef |>.set 14 undef |>.set 15 (.bool true) |>.set 16 (.bool true) |>.set 17 undef |>.set 18 undef |>.set 19 undef |>.set 20 undef |>.set 21 (.bool true) |>.set 22 (.bool true) |>.set 23 undef |>.set 24 undef |>.set 25 undef |>.set 26 undef |>.set 27 undef |>.set 28 undef |>.set 29 undef |>.set 30 undef |>.set 31 (.bool true))) call k).trans (by kernel_rfl)
theorem f78_g1_4_false (call : Handle) (k : Nat) : gOps Try.prog 2 call (opsAt (fAt Try.f78 [1,0,0])) ((opsAt (fAt Try.f78 [1,0,0])).drop 4) ((FF 55 d) |>.set 10 (.bool false)) H ((hSeq (gCode Try.prog call k (fAt Try.f78 [1,0,1])) (hSeq (gCode Try.prog call k (fAt Try.f78 [1,1])) (hFin Try.prog Try.f78))) .normal) =
  onV (oFieldAddr Try.prog 62 (d 3) 2) fun v1 =>
  onV (gLoad Try.prog 26 v1 H) fun v2 =>
  onV (oLen Try.prog 26 v2) fun v3 =>
  onV ((oBin Try.prog .gtr 3 v3 (.int .i64 4)).filter closed) fun v4 =>
  (f78_g1_10 call k v4 (d 2) (d 3) H) := by
  rw [gOps_split 4 6, s78_3]
  refine onV_c fun v1 => ?_
  refine onV_c fun v2 => ?_
  refine onV_c fun v3 => ?_
  refine onV_c fun v4 => ?_
  rw [show ((FF 55 d) |>.set 10 (.bool false) |>.set 11 v1 |>.set 12 v2 |>.set 13 v3 |>.set 14 v4 |>.set 15 v4 |>.set 16 v4) = ((FF 55 (gf ((FF 55 d) |>.set 10 (.bool false) |>.set 11 v1 |>.set 12 v2 |>.set 13 v3 |>.set 14 v4 |>.set 15 v4 |>.set 16 v4))) |>.set 16 v4) from by kernel_rfl]
  exact (f78_g1_10_eq (d := gf ((FF 55 d) |>.set 10 (.bool false) |>.set 11 v1 |>.set 12 v2 |>.set 13 v3 |>.set 14 v4 |>.set 15 v4 |>.set 16 v4)) call k).trans (by kernel_rfl)
theorem f78_g1_4_eq (call : Handle) (k : Nat) : onGrd true xg (gOps Try.prog 2 call (opsAt (fAt Try.f78 [1,0,0])) ((opsAt (fAt Try.f78 [1,0,0])).drop 4) ((FF 55 d) |>.set 10 xg) H ((hSeq (gCode Try.prog call k (fAt Try.f78 [1,0,1])) (hSeq (gCode Try.prog call k (fAt Try.f78 [1,1])) (hFin Try.prog Try.f78))) .normal)) =
  f78_g1_4 call k xg (d 2) (d 3) H := by
  cases xg with
  | bool b => cases b with
    | true => exact onGrd_b.trans (f78_g1_4_true call k)
    | false => exact onGrd_b.trans (f78_g1_4_false call k)
  | _ => kernel_rfl
noncomputable def f78_r1 (call : Handle) (k : Nat) (x2 x3 : Value) (H : GH) : M (Value × GH) :=
  onV (oFieldAddr Try.prog 62 x3 0) fun v1 =>
  onV (gLoad Try.prog 33 v1 H) fun v2 =>
  onV ((oBin Try.prog .gtr 33 v2 (.int .u8 1)).filter closed) fun v3 =>
  (f78_g1_4 call k v3 x2 x3 H)
theorem f78_r1_eq (call : Handle) (k : Nat) : gCode Try.prog call k (fAt Try.f78 [1,0,0]) (FF 55 d) H (hSeq (gCode Try.prog call k (fAt Try.f78 [1,0,1])) (hSeq (gCode Try.prog call k (fAt Try.f78 [1,1])) (hFin Try.prog Try.f78))) = f78_r1 call k (d 2) (d 3) H := by
  unfold f78_r1
  rw [n78_4]
  rw [gOps_split 0 4, s78_1]
  refine onV_c fun v1 => ?_
  refine onV_c fun v2 => ?_
  refine onV_c fun v3 => ?_
  rw [show ((FF 55 d) |>.set 7 v1 |>.set 8 v2 |>.set 9 v3 |>.set 10 v3) = ((FF 55 (gf ((FF 55 d) |>.set 7 v1 |>.set 8 v2 |>.set 9 v3 |>.set 10 v3))) |>.set 10 v3) from by kernel_rfl]
  exact (f78_g1_4_eq (d := gf ((FF 55 d) |>.set 7 v1 |>.set 8 v2 |>.set 9 v3 |>.set 10 v3)) call k).trans (by kernel_rfl)
noncomputable def f78_sh (call : Handle) (k : Nat) (p0 p1 : Value) (H : GH) : M (Value × GH) :=
  (f78_r1 call k (.pointer (some ⟨H.n, 0, none⟩)) (.pointer (some ⟨(GH.push H (.row (Value.cells p0).toList 58 false)).n, 0, none⟩)) (GH.push (GH.push H (.row (Value.cells p0).toList 58 false)) (.row (Value.cells p1).toList 62 false)))
theorem f78_run (call : Handle) (k : Nat) (p0 p1 : Value) (H : GH) : gCode Try.prog call k (fAt Try.f78 []) ((FF 55 fun _ => undef) |>.set 0 p0 |>.set 1 p1) H (hFin Try.prog Try.f78) = f78_sh call k p0 p1 H := by
  unfold f78_sh
  rw [n78_0]
  rw [n78_1]
  rw [s78_0]
  rw [hSeq_n]
  rw [n78_2]
  rw [n78_3]
  rw [show ((FF 55 fun _ => undef) |>.set 0 p0 |>.set 1 p1 |>.set 2 (.pointer (some ⟨H.n, 0, none⟩)) |>.set 3 (.pointer (some ⟨(GH.push H (.row (Value.cells p0).toList 58 false)).n, 0, none⟩)) |>.set 4 (.bool false)) = (FF 55 (gf ((FF 55 fun _ => undef) |>.set 0 p0 |>.set 1 p1 |>.set 2 (.pointer (some ⟨H.n, 0, none⟩)) |>.set 3 (.pointer (some ⟨(GH.push H (.row (Value.cells p0).toList 58 false)).n, 0, none⟩)) |>.set 4 (.bool false)))) from by kernel_rfl]
  exact (f78_r1_eq (d := gf ((FF 55 fun _ => undef) |>.set 0 p0 |>.set 1 p1 |>.set 2 (.pointer (some ⟨H.n, 0, none⟩)) |>.set 3 (.pointer (some ⟨(GH.push H (.row (Value.cells p0).toList 58 false)).n, 0, none⟩)) |>.set 4 (.bool false))) call k).trans (by kernel_rfl)
theorem f78_eq (call : Handle) (k : Nat) (p0 p1 : Value) (H : GH) : gFunc Try.prog call k Try.f78 [p0, p1] H = f78_sh call k p0 p1 H :=
  Eq.trans (by kernel_rfl) (f78_run call k p0 p1 H)
end
section
variable {β : Type} {call : Handle} {k : Nat} {a : GA} {K : Kont β} {K' : GA → GH → M β}
variable {d : Nat → Value} {xg : Value}
variable {p0 : Value}
variable {H : GH}
theorem n79_0 : gCode Try.prog call k (fAt Try.f79 []) a H K = gCode Try.prog call k (fAt Try.f79 [0]) a H (hSeq (gCode Try.prog call k (fAt Try.f79 [1])) K) := at_seq (by kernel_rfl)
theorem n79_1 : gCode Try.prog call k (fAt Try.f79 [0]) a H K = gOps Try.prog 0 call (opsAt (fAt Try.f79 [0])) ((opsAt (fAt Try.f79 [0])).drop 0) a H (K .normal) := at_region (by kernel_rfl)
theorem n79_2 : gCode Try.prog call k (fAt Try.f79 [1]) a H K = gCode Try.prog call k (fAt Try.f79 [1,0]) a H (hSeq (gCode Try.prog call k (fAt Try.f79 [1,1])) K) := at_seq (by kernel_rfl)
theorem n79_3 : gCode Try.prog call k (fAt Try.f79 [1,0]) a H K = gOps Try.prog 2 call (opsAt (fAt Try.f79 [1,0])) ((opsAt (fAt Try.f79 [1,0])).drop 0) a H (K .normal) := at_region (by kernel_rfl)
theorem n79_4 : gCode Try.prog call k (fAt Try.f79 [1,1]) a H K = gCode Try.prog call k (fAt Try.f79 [1,1,0]) a H (hSeq (gCode Try.prog call k (fAt Try.f79 [1,1,1])) K) := at_seq (by kernel_rfl)
theorem n79_5 : gCode Try.prog call k (fAt Try.f79 [1,1,0]) a H K = gOps Try.prog 0 call (opsAt (fAt Try.f79 [1,1,0])) ((opsAt (fAt Try.f79 [1,1,0])).drop 0) a H (K .normal) := at_region (by kernel_rfl)
theorem n79_6 : gCode Try.prog call k (fAt Try.f79 [1,1,1]) a H K = K .ret a H := at_ret (by kernel_rfl)
theorem s79_0 : gOps Try.prog 0 call (opsAt (fAt Try.f79 [0])) ((opsAt (fAt Try.f79 [0])).drop 0) ((FF 14 fun _ => undef) |>.set 0 p0) H K' =
  K' ((FF 14 fun _ => undef) |>.set 0 p0 |>.set 1 (.pointer (some ⟨H.n, 0, none⟩)) |>.set 2 (.pointer (some ⟨(GH.push H (.row (Value.cells p0).toList 62 false)).n, 0, none⟩))) (GH.push (GH.push H (.row (Value.cells p0).toList 62 false)) (.row [(.int .u8 0), (.bool false), (.slice none 0 0), (.slice none 0 0)] 62 false)) := by kernel_rfl
theorem s79_1 : gOps Try.prog 2 call (opsAt (fAt Try.f79 [1,0])) ((opsAt (fAt Try.f79 [1,0])).drop 0) (FF 14 d) H K' =
  onV (oFieldAddr Try.prog 62 (d 1) 2) fun v1 =>
  onV (gLoad Try.prog 26 v1 H) fun v2 =>
  onCall 2 call (.func (.func 115) #[] #[]) [v2] H fun v3 H4 =>
  onCall 2 call (.func (.func 76) #[] #[]) [v3] H4 fun v5 H6 =>
  onV (oFieldAddr Try.prog 62 (d 1) 3) fun v7 =>
  onV (gLoad Try.prog 60 v7 H6) fun v8 =>
  onCall 2 call (.func (.func 146) #[] #[]) [v8] H6 fun v9 H10 =>
  onCall 2 call (.func (.func 145) #[] #[]) [v9] H10 fun v11 H12 =>
  onV (oFieldAddr Try.prog 62 (d 1) 2) fun v13 =>
  onH (gStore Try.prog 26 v13 v5 H12) fun H14 =>
  onV (oFieldAddr Try.prog 62 (d 1) 3) fun v15 =>
  onH (gStore Try.prog 60 v15 v11 H14) fun H16 =>
  K' ((FF 14 d) |>.set 3 v1 |>.set 4 v2 |>.set 5 v3 |>.set 6 v5 |>.set 7 v7 |>.set 8 v8 |>.set 9 v9 |>.set 10 v11 |>.set 11 v13 |>.set 12 v15) H16 := by kernel_rfl
theorem s79_2 : gOps Try.prog 0 call (opsAt (fAt Try.f79 [1,1,0])) ((opsAt (fAt Try.f79 [1,1,0])).drop 0) (FF 14 d) H K' =
  onV (gLoad Try.prog 62 (d 1) H) fun v1 =>
  onH (gStore Try.prog 62 (d 2) v1 H) fun H2 =>
  K' ((FF 14 d) |>.set 13 v1) H2 := by kernel_rfl
noncomputable def f79_r2 (call : Handle) (k : Nat) (x1 x2 : Value) (H : GH) : M (Value × GH) :=
  onV (gLoad Try.prog 62 x1 H) fun v1 =>
  onH (gStore Try.prog 62 x2 v1 H) fun H2 =>
  onV (gResL Try.prog H2 [(x2, some 62)]) fun v => some [(v, H2)]
theorem f79_r2_eq (call : Handle) (k : Nat) : gCode Try.prog call k (fAt Try.f79 [1,1,0]) (FF 14 d) H (hSeq (gCode Try.prog call k (fAt Try.f79 [1,1,1])) (hFin Try.prog Try.f79)) = f79_r2 call k (d 1) (d 2) H := by
  unfold f79_r2
  rw [n79_5]
  rw [s79_2]
  refine onV_c fun v1 => ?_
  refine onH_c fun H2 => ?_
  rw [hSeq_n]
  rw [n79_6]
  kernel_rfl
noncomputable def f79_r1 (call : Handle) (k : Nat) (x1 x2 : Value) (H : GH) : M (Value × GH) :=
  onV (oFieldAddr Try.prog 62 x1 2) fun v1 =>
  onV (gLoad Try.prog 26 v1 H) fun v2 =>
  onCall 2 call (.func (.func 115) #[] #[]) [v2] H fun v3 H4 =>
  onCall 2 call (.func (.func 76) #[] #[]) [v3] H4 fun v5 H6 =>
  onV (oFieldAddr Try.prog 62 x1 3) fun v7 =>
  onV (gLoad Try.prog 60 v7 H6) fun v8 =>
  onCall 2 call (.func (.func 146) #[] #[]) [v8] H6 fun v9 H10 =>
  onCall 2 call (.func (.func 145) #[] #[]) [v9] H10 fun v11 H12 =>
  onV (oFieldAddr Try.prog 62 x1 2) fun v13 =>
  onH (gStore Try.prog 26 v13 v5 H12) fun H14 =>
  onV (oFieldAddr Try.prog 62 x1 3) fun v15 =>
  onH (gStore Try.prog 60 v15 v11 H14) fun H16 =>
  (f79_r2 call k x1 x2 H16)
theorem f79_r1_eq (call : Handle) (k : Nat) : gCode Try.prog call k (fAt Try.f79 [1,0]) (FF 14 d) H (hSeq (gCode Try.prog call k (fAt Try.f79 [1,1])) (hFin Try.prog Try.f79)) = f79_r1 call k (d 1) (d 2) H := by
  unfold f79_r1
  rw [n79_3]
  rw [s79_1]
  refine onV_c fun v1 => ?_
  refine onV_c fun v2 => ?_
  refine onCall_c fun v3 H4 => ?_
  refine onCall_c fun v5 H6 => ?_
  refine onV_c fun v7 => ?_
  refine onV_c fun v8 => ?_
  refine onCall_c fun v9 H10 => ?_
  refine onCall_c fun v11 H12 => ?_
  refine onV_c fun v13 => ?_
  refine onH_c fun H14 => ?_
  refine onV_c fun v15 => ?_
  refine onH_c fun H16 => ?_
  rw [hSeq_n]
  rw [n79_4]
  rw [show ((FF 14 d) |>.set 3 v1 |>.set 4 v2 |>.set 5 v3 |>.set 6 v5 |>.set 7 v7 |>.set 8 v8 |>.set 9 v9 |>.set 10 v11 |>.set 11 v13 |>.set 12 v15) = (FF 14 (gf ((FF 14 d) |>.set 3 v1 |>.set 4 v2 |>.set 5 v3 |>.set 6 v5 |>.set 7 v7 |>.set 8 v8 |>.set 9 v9 |>.set 10 v11 |>.set 11 v13 |>.set 12 v15))) from by kernel_rfl]
  exact (f79_r2_eq (d := gf ((FF 14 d) |>.set 3 v1 |>.set 4 v2 |>.set 5 v3 |>.set 6 v5 |>.set 7 v7 |>.set 8 v8 |>.set 9 v9 |>.set 10 v11 |>.set 11 v13 |>.set 12 v15)) call k).trans (by kernel_rfl)
noncomputable def f79_sh (call : Handle) (k : Nat) (p0 : Value) (H : GH) : M (Value × GH) :=
  (f79_r1 call k (.pointer (some ⟨H.n, 0, none⟩)) (.pointer (some ⟨(GH.push H (.row (Value.cells p0).toList 62 false)).n, 0, none⟩)) (GH.push (GH.push H (.row (Value.cells p0).toList 62 false)) (.row [(.int .u8 0), (.bool false), (.slice none 0 0), (.slice none 0 0)] 62 false)))
theorem f79_run (call : Handle) (k : Nat) (p0 : Value) (H : GH) : gCode Try.prog call k (fAt Try.f79 []) ((FF 14 fun _ => undef) |>.set 0 p0) H (hFin Try.prog Try.f79) = f79_sh call k p0 H := by
  unfold f79_sh
  rw [n79_0]
  rw [n79_1]
  rw [s79_0]
  rw [hSeq_n]
  rw [n79_2]
  rw [show ((FF 14 fun _ => undef) |>.set 0 p0 |>.set 1 (.pointer (some ⟨H.n, 0, none⟩)) |>.set 2 (.pointer (some ⟨(GH.push H (.row (Value.cells p0).toList 62 false)).n, 0, none⟩))) = (FF 14 (gf ((FF 14 fun _ => undef) |>.set 0 p0 |>.set 1 (.pointer (some ⟨H.n, 0, none⟩)) |>.set 2 (.pointer (some ⟨(GH.push H (.row (Value.cells p0).toList 62 false)).n, 0, none⟩))))) from by kernel_rfl]
  exact (f79_r1_eq (d := gf ((FF 14 fun _ => undef) |>.set 0 p0 |>.set 1 (.pointer (some ⟨H.n, 0, none⟩)) |>.set 2 (.pointer (some ⟨(GH.push H (.row (Value.cells p0).toList 62 false)).n, 0, none⟩)))) call k).trans (by kernel_rfl)
theorem f79_eq (call : Handle) (k : Nat) (p0 : Value) (H : GH) : gFunc Try.prog call k Try.f79 [p0] H = f79_sh call k p0 H :=
  Eq.trans (by kernel_rfl) (f79_run call k p0 H)
end
section
variable {β : Type} {call : Handle} {k : Nat} {a : GA} {K : Kont β} {K' : GA → GH → M β}
variable {d : Nat → Value} {xg : Value}
variable {p0 : Value}
variable {H : GH}
theorem n80_0 : gCode Try.prog call k (fAt Try.f80 []) a H K = gCode Try.prog call k (fAt Try.f80 [0]) a H (hSeq (gCode Try.prog call k (fAt Try.f80 [1])) K) := at_seq (by kernel_rfl)
theorem n80_1 : gCode Try.prog call k (fAt Try.f80 [0]) a H K = gOps Try.prog 0 call (opsAt (fAt Try.f80 [0])) ((opsAt (fAt Try.f80 [0])).drop 0) a H (K .normal) := at_region (by kernel_rfl)
theorem n80_2 : gCode Try.prog call k (fAt Try.f80 [1]) a H K = gCode Try.prog call k (fAt Try.f80 [1,0]) a H (hSeq (gCode Try.prog call k (fAt Try.f80 [1,1])) K) := at_seq (by kernel_rfl)
theorem n80_3 : gCode Try.prog call k (fAt Try.f80 [1,0]) a H K = gOps Try.prog 0 call (opsAt (fAt Try.f80 [1,0])) ((opsAt (fAt Try.f80 [1,0])).drop 0) a H (K .normal) := at_region (by kernel_rfl)
theorem n80_4 : gCode Try.prog call k (fAt Try.f80 [1,1]) a H K = K .ret a H := at_ret (by kernel_rfl)
theorem s80_0 : gOps Try.prog 0 call (opsAt (fAt Try.f80 [0])) ((opsAt (fAt Try.f80 [0])).drop 0) ((FF 9 fun _ => undef) |>.set 0 p0) H K' =
  K' ((FF 9 fun _ => undef) |>.set 0 p0 |>.set 2 (.slice none 0 0)) H := by kernel_rfl
theorem s80_1 : gOps Try.prog 0 call (opsAt (fAt Try.f80 [1,0])) ((opsAt (fAt Try.f80 [1,0])).drop 0) ((FF 9 fun _ => undef) |>.set 0 p0 |>.set 2 (.slice none 0 0)) H K' =
  onV (oLen Try.prog 59 p0) fun v1 =>
  onV (oLen Try.prog 59 p0) fun v2 =>
  onV (oSlice Try.prog 59 p0 none (some v1) (some v2)) fun v3 =>
  K' ((FF 9 fun _ => undef) |>.set 0 p0 |>.set 2 (.slice none 0 0) |>.set 3 p0 |>.set 4 p0 |>.set 5 v1 |>.set 6 p0 |>.set 7 v2 |>.set 8 v3 |>.set 2 v3) H := by kernel_rfl
noncomputable def f80_sh (call : Handle) (k : Nat) (p0 : Value) (H : GH) : M (Value × GH) :=
  onV (oLen Try.prog 59 p0) fun v1 =>
  onV (oLen Try.prog 59 p0) fun v2 =>
  onV (oSlice Try.prog 59 p0 none (some v1) (some v2)) fun v3 =>
  some [(v3, H)]
theorem f80_run (call : Handle) (k : Nat) (p0 : Value) (H : GH) : gCode Try.prog call k (fAt Try.f80 []) ((FF 9 fun _ => undef) |>.set 0 p0) H (hFin Try.prog Try.f80) = f80_sh call k p0 H := by
  unfold f80_sh
  rw [n80_0]
  rw [n80_1]
  rw [s80_0]
  rw [hSeq_n]
  rw [n80_2]
  rw [n80_3]
  rw [s80_1]
  refine onV_c fun v1 => ?_
  refine onV_c fun v2 => ?_
  refine onV_c fun v3 => ?_
  rw [hSeq_n]
  rw [n80_4]
  kernel_rfl
theorem f80_eq (call : Handle) (k : Nat) (p0 : Value) (H : GH) : gFunc Try.prog call k Try.f80 [p0] H = f80_sh call k p0 H :=
  Eq.trans (by kernel_rfl) (f80_run call k p0 H)
end
end Go.Proofs.Ythicilkmjamefaa
