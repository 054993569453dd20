/- PRINTED by sh.py: shallow forms of functions of the program, each proved equal to what the ghost machine makes of its code. -/
import Derived.Test.YthicilkmjamefaaGkTop
import Derived.Test.YthicilkmjamefaaProg
namespace Go.Proofs.Ythicilkmjamefaa
open Go.Gh
set_option linter.unusedVariables false
set_option linter.unusedSimpArgs false
set_option maxRecDepth 100000
noncomputable def g98 {β : Type} (call : Handle) (k : Nat) (p : List Nat) : GA → GH → Kont β → M β := gCode Try.prog call k (fAt Try.f98 p)
noncomputable def o98 {β : Type} (d : Nat) (call : Handle) (p : List Nat) (i : Nat) : GA → GH → (GA → GH → M β) → M β := gOps Try.prog d call (opsAt (fAt Try.f98 p)) ((opsAt (fAt Try.f98 p)).drop i)
noncomputable def t98 {β : Type} (d : Nat) (call : Handle) (p : List Nat) (i n : Nat) : GA → GH → (GA → GH → M β) → M β := gOps Try.prog d call (opsAt (fAt Try.f98 p)) (((opsAt (fAt Try.f98 p)).drop i).take n)
theorem o98_s {β : Type} {d : Nat} {call : Handle} {p : List Nat} {a : GA} {H : GH} {K : GA → GH → M β} (i n : Nat) : o98 d call p i a H K = t98 d call p i n a H fun a H => o98 d call p (i + n) a H K := gOps_split i n
section
variable {β : Type} {call : Handle} {k : Nat} {a : GA} {K : Kont β} {K' : GA → GH → M β}
variable {d : Nat → Value} {xg : Value}
variable {p0 : Value}
variable {v1 : Value}
variable {H : GH}
theorem n98_0 : g98 call k [] a H K = g98 call k [0] a H (hSeq (g98 call k [1]) K) := at_seq (by kernel_rfl)
theorem n98_1 : g98 call k [0] a H K = o98 0 call [0] 0 a H (K .normal) := at_region (by kernel_rfl)
theorem n98_2 : g98 call k [1] a H K = g98 call k [1,0] a H (hSeq (g98 call k [1,1]) K) := at_seq (by kernel_rfl)
theorem n98_3 : g98 call k [1,0] a H K = g98 call k [1,0,0] a H (hSeq (g98 call k [1,0,1]) K) := at_seq (by kernel_rfl)
theorem n98_4 : g98 call k [1,0,0] a H K = o98 0 call [1,0,0] 0 a H (K .normal) := at_region (by kernel_rfl)
theorem n98_5 : g98 call k [1,0,1] a H K = onBool (asB (GA.eval a (.tmp 4))) (g98 call k [1,0,1,0] a H K) (g98 call k [1,0,1,1] a H K) := at_cond (by kernel_rfl)
theorem n98_6 : g98 call k [1,0,1,0] a H K = g98 call k [1,0,1,0,0] a H (hSeq (g98 call k [1,0,1,0,1]) K) := at_seq (by kernel_rfl)
theorem n98_7 : g98 call k [1,0,1,0,0] a H K = o98 0 call [1,0,1,0,0] 0 a H (K .normal) := at_region (by kernel_rfl)
theorem n98_8 : g98 call k [1,0,1,0,1] a H K = K .ret a H := at_ret (by kernel_rfl)
theorem n98_9 : g98 call k [1,0,1,1] a H K = K .normal a H := at_skip (by kernel_rfl)
theorem n98_10 : g98 call k [1,1] a H K = g98 call k [1,1,0] a H (hSeq (g98 call k [1,1,1]) K) := at_seq (by kernel_rfl)
theorem n98_11 : g98 call k [1,1,0] a H K = o98 0 call [1,1,0] 0 a H (K .normal) := at_region (by kernel_rfl)
theorem n98_12 : g98 call k [1,1,1] a H K = K .ret a H := at_ret (by kernel_rfl)
theorem s98_0 : o98 0 call [0] 0 (FG 8 (fun _ => undef) [(0, p0)]) H K' =
  K' (FG 8 (fun _ => undef) [(2, (.slice none 0 0)), (0, p0)]) H := by kernel_rfl
theorem s98_1 : o98 0 call [1,0,0] 0 (FG 8 (fun _ => undef) [(2, (.slice none 0 0)), (0, p0)]) H K' =
  onV ((oBin Try.prog .eql 85 p0 (.slice none 0 0)).filter closed) fun v1 =>
  K' (FG 8 (fun _ => undef) [(4, v1), (3, p0), (2, (.slice none 0 0)), (0, p0)]) H := by kernel_rfl
theorem s98_2 : o98 0 call [1,0,1,0,0] 0 (FG 8 (fun _ => undef) [(4, v1), (3, p0), (2, (.slice none 0 0)), (0, p0)]) H K' =
  K' (FG 8 (fun _ => undef) [(2, (.slice none 0 0)), (4, v1), (3, p0), (2, (.slice none 0 0)), (0, p0)]) H := by kernel_rfl
theorem s98_3 : o98 0 call [1,1,0] 0 (FG 8 (fun _ => undef) [(4, v1), (3, p0), (2, (.slice none 0 0)), (0, p0)]) H K' =
  onVH (gBuildSlice Try.prog 85 0 [] H) fun v2 H3 =>
  onVH (gAppend Try.prog 85 85 v2 p0 H3) fun v4 H5 =>
  K' (FG 8 (fun _ => undef) [(2, v4), (7, v4), (6, p0), (5, v2), (4, v1), (3, p0), (2, (.slice none 0 0)), (0, p0)]) H5 := by kernel_rfl
noncomputable def f98_sh (call : Handle) (k : Nat) (p0 : Value) (H : GH) : M (Value × GH) :=
  onV ((oBin Try.prog .eql 85 p0 (.slice none 0 0)).filter closed) fun v1 =>
  onBool (asB v1)
  (some [((.slice none 0 0), H)])
  (onVH (gBuildSlice Try.prog 85 0 [] H) fun v2 H3 =>
  onVH (gAppend Try.prog 85 85 v2 p0 H3) fun v4 H5 =>
  some [(v4, H5)])
theorem f98_run (call : Handle) (k : Nat) (p0 : Value) (H : GH) : g98 call k [] (FG 8 (fun _ => undef) [(0, p0)]) H (hFin Try.prog Try.f98) = f98_sh call k p0 H := by
  unfold f98_sh
  rw [n98_0]
  rw [n98_1]
  rw [s98_0]
  rw [hSeq_n]
  rw [n98_2]
  rw [n98_3]
  rw [n98_4]
  rw [s98_1]
  refine onV_c fun v1 => ?_
  rw [hSeq_n]
  rw [n98_5]
  refine onBool_cc (by kernel_rfl) ?_ ?_
  · rw [n98_6]
    rw [n98_7]
    rw [s98_2]
    rw [hSeq_n]
    rw [n98_8]
    rw [hSeq_r]
    kernel_rfl
  · rw [n98_9]
    rw [hSeq_n]
    rw [n98_10]
    rw [n98_11]
    rw [s98_3]
    refine onVH_c fun v2 H3 => ?_
    refine onVH_c fun v4 H5 => ?_
    rw [hSeq_n]
    rw [n98_12]
    kernel_rfl
theorem f98_eq (call : Handle) (k : Nat) (p0 : Value) (H : GH) : gFunc Try.prog call k Try.f98 [p0] H = f98_sh call k p0 H :=
  Eq.trans (by kernel_rfl) (f98_run call k p0 H)
end
noncomputable def g100 {β : Type} (call : Handle) (k : Nat) (p : List Nat) : GA → GH → Kont β → M β := gCode Try.prog call k (fAt Try.f100 p)
noncomputable def o100 {β : Type} (d : Nat) (call : Handle) (p : List Nat) (i : Nat) : GA → GH → (GA → GH → M β) → M β := gOps Try.prog d call (opsAt (fAt Try.f100 p)) ((opsAt (fAt Try.f100 p)).drop i)
noncomputable def t100 {β : Type} (d : Nat) (call : Handle) (p : List Nat) (i n : Nat) : GA → GH → (GA → GH → M β) → M β := gOps Try.prog d call (opsAt (fAt Try.f100 p)) (((opsAt (fAt Try.f100 p)).drop i).take n)
theorem o100_s {β : Type} {d : Nat} {call : Handle} {p : List Nat} {a : GA} {H : GH} {K : GA → GH → M β} (i n : Nat) : o100 d call p i a H K = t100 d call p i n a H fun a H => o100 d call p (i + n) a H K := gOps_split i n
section
variable {β : Type} {call : Handle} {k : Nat} {a : GA} {K : Kont β} {K' : GA → GH → M β}
variable {d : Nat → Value} {xg : Value}
variable {p0 p1 : Value}
variable {H : GH}
theorem n100_0 : g100 call k [] a H K = g100 call k [0] a H (hSeq (g100 call k [1]) K) := at_seq (by kernel_rfl)
theorem n100_1 : g100 call k [0] a H K = o100 0 call [0] 0 a H (K .normal) := at_region (by kernel_rfl)
theorem n100_2 : g100 call k [1] a H K = g100 call k [1,0] a H (hSeq (g100 call k [1,1]) K) := at_seq (by kernel_rfl)
theorem n100_3 : g100 call k [1,0] a H K = o100 0 call [1,0] 0 a H (K .normal) := at_region (by kernel_rfl)
theorem n100_4 : g100 call k [1,1] a H K = K .ret a H := at_ret (by kernel_rfl)
theorem s100_0 : o100 0 call [0] 0 (FG 9 (fun _ => undef) [(1, p1), (0, p0)]) H K' =
  K' (FG 9 (fun _ => undef) [(4, (.bool false)), (1, p1), (0, p0)]) H := by kernel_rfl
theorem s100_1 : o100 0 call [1,0] 0 (FG 9 (fun _ => undef) [(4, (.bool false)), (1, p1), (0, p0)]) H K' =
  onCall 0 call (.func (.func 159) #[] #[]) [p0, p1] H fun v1 H2 =>
  onV ((oBin Try.prog .geq 3 v1 (.int .i64 0)).filter closed) fun v3 =>
  K' (FG 9 (fun _ => undef) [(4, v3), (8, v3), (7, v1), (6, p1), (5, p0), (4, (.bool false)), (1, p1), (0, p0)]) H2 := by kernel_rfl
noncomputable def f100_sh (call : Handle) (k : Nat) (p0 p1 : Value) (H : GH) : M (Value × GH) :=
  onCall 0 call (.func (.func 159) #[] #[]) [p0, p1] H fun v1 H2 =>
  onV ((oBin Try.prog .geq 3 v1 (.int .i64 0)).filter closed) fun v3 =>
  some [(v3, H2)]
theorem f100_run (call : Handle) (k : Nat) (p0 p1 : Value) (H : GH) : g100 call k [] (FG 9 (fun _ => undef) [(1, p1), (0, p0)]) H (hFin Try.prog Try.f100) = f100_sh call k p0 p1 H := by
  unfold f100_sh
  rw [n100_0]
  rw [n100_1]
  rw [s100_0]
  rw [hSeq_n]
  rw [n100_2]
  rw [n100_3]
  rw [s100_1]
  refine onCall_c fun v1 H2 => ?_
  refine onV_c fun v3 => ?_
  rw [hSeq_n]
  rw [n100_4]
  kernel_rfl
theorem f100_eq (call : Handle) (k : Nat) (p0 p1 : Value) (H : GH) : gFunc Try.prog call k Try.f100 [p0, p1] H = f100_sh call k p0 p1 H :=
  Eq.trans (by kernel_rfl) (f100_run call k p0 p1 H)
end
noncomputable def g101 {β : Type} (call : Handle) (k : Nat) (p : List Nat) : GA → GH → Kont β → M β := gCode Try.prog call k (fAt Try.f101 p)
noncomputable def o101 {β : Type} (d : Nat) (call : Handle) (p : List Nat) (i : Nat) : GA → GH → (GA → GH → M β) → M β := gOps Try.prog d call (opsAt (fAt Try.f101 p)) ((opsAt (fAt Try.f101 p)).drop i)
noncomputable def t101 {β : Type} (d : Nat) (call : Handle) (p : List Nat) (i n : Nat) : GA → GH → (GA → GH → M β) → M β := gOps Try.prog d call (opsAt (fAt Try.f101 p)) (((opsAt (fAt Try.f101 p)).drop i).take n)
theorem o101_s {β : Type} {d : Nat} {call : Handle} {p : List Nat} {a : GA} {H : GH} {K : GA → GH → M β} (i n : Nat) : o101 d call p i a H K = t101 d call p i n a H fun a H => o101 d call p (i + n) a H K := gOps_split i n
section
variable {β : Type} {call : Handle} {k : Nat} {a : GA} {K : Kont β} {K' : GA → GH → M β}
variable {d : Nat → Value} {xg : Value}
variable {p0 : Value}
variable {H : GH}
theorem n101_0 : g101 call k [] a H K = g101 call k [0] a H (hSeq (g101 call k [1]) K) := at_seq (by kernel_rfl)
theorem n101_1 : g101 call k [0] a H K = o101 0 call [0] 0 a H (K .normal) := at_region (by kernel_rfl)
theorem n101_2 : g101 call k [1] a H K = g101 call k [1,0] a H (hSeq (g101 call k [1,1]) K) := at_seq (by kernel_rfl)
theorem n101_3 : g101 call k [1,0] a H K = o101 0 call [1,0] 0 a H (K .normal) := at_region (by kernel_rfl)
theorem n101_4 : g101 call k [1,1] a H K = K .ret a H := at_ret (by kernel_rfl)
theorem s101_0 : o101 0 call [0] 0 (FG 6 (fun _ => undef) [(0, p0)]) H K' =
  K' (FG 6 (fun _ => undef) [(2, (.bool false)), (1, (.pointer (some ⟨H.n, 0, none⟩))), (0, p0)]) (GH.push H (.row (Value.cells p0).toList 91 false)) := by kernel_rfl
theorem s101_1 : o101 0 call [1,0] 0 (FG 6 (fun _ => undef) [(2, (.bool false)), (1, (.pointer (some ⟨H.n, 0, none⟩))), (0, p0)]) (GH.push H (.row (Value.cells p0).toList 91 false)) K' =
  onV (gLoad Try.prog 91 (.pointer (some ⟨H.n, 0, none⟩)) (GH.push H (.row (Value.cells p0).toList 91 false))) fun v1 =>
  onCall 0 call (.func (.func 95) #[] #[]) [v1] (GH.push H (.row (Value.cells p0).toList 91 false)) fun v2 H3 =>
  onV ((oUn Try.prog .not v2).filter closed) fun v4 =>
  K' (FG 6 (fun _ => undef) [(2, v4), (5, v4), (4, v2), (3, v1), (2, (.bool false)), (1, (.pointer (some ⟨H.n, 0, none⟩))), (0, p0)]) H3 := by kernel_rfl
noncomputable def f101_sh (call : Handle) (k : Nat) (p0 : Value) (H : GH) : M (Value × GH) :=
  onV (gLoad Try.prog 91 (.pointer (some ⟨H.n, 0, none⟩)) (GH.push H (.row (Value.cells p0).toList 91 false))) fun v1 =>
  onCall 0 call (.func (.func 95) #[] #[]) [v1] (GH.push H (.row (Value.cells p0).toList 91 false)) fun v2 H3 =>
  onV ((oUn Try.prog .not v2).filter closed) fun v4 =>
  some [(v4, H3)]
theorem f101_run (call : Handle) (k : Nat) (p0 : Value) (H : GH) : g101 call k [] (FG 6 (fun _ => undef) [(0, p0)]) H (hFin Try.prog Try.f101) = f101_sh call k p0 H := by
  unfold f101_sh
  rw [n101_0]
  rw [n101_1]
  rw [s101_0]
  rw [hSeq_n]
  rw [n101_2]
  rw [n101_3]
  rw [s101_1]
  refine onV_c fun v1 => ?_
  refine onCall_c fun v2 H3 => ?_
  refine onV_c fun v4 => ?_
  rw [hSeq_n]
  rw [n101_4]
  kernel_rfl
theorem f101_eq (call : Handle) (k : Nat) (p0 : Value) (H : GH) : gFunc Try.prog call k Try.f101 [p0] H = f101_sh call k p0 H :=
  Eq.trans (by kernel_rfl) (f101_run call k p0 H)
end
noncomputable def g102 {β : Type} (call : Handle) (k : Nat) (p : List Nat) : GA → GH → Kont β → M β := gCode Try.prog call k (fAt Try.f102 p)
noncomputable def o102 {β : Type} (d : Nat) (call : Handle) (p : List Nat) (i : Nat) : GA → GH → (GA → GH → M β) → M β := gOps Try.prog d call (opsAt (fAt Try.f102 p)) ((opsAt (fAt Try.f102 p)).drop i)
noncomputable def t102 {β : Type} (d : Nat) (call : Handle) (p : List Nat) (i n : Nat) : GA → GH → (GA → GH → M β) → M β := gOps Try.prog d call (opsAt (fAt Try.f102 p)) (((opsAt (fAt Try.f102 p)).drop i).take n)
theorem o102_s {β : Type} {d : Nat} {call : Handle} {p : List Nat} {a : GA} {H : GH} {K : GA → GH → M β} (i n : Nat) : o102 d call p i a H K = t102 d call p i n a H fun a H => o102 d call p (i + n) a H K := gOps_split i n
section
variable {β : Type} {call : Handle} {k : Nat} {a : GA} {K : Kont β} {K' : GA → GH → M β}
variable {d : Nat → Value} {xg : Value}
variable {p0 p1 : Value}
variable {v1 v2 v3 v4 v5 v6 v8 : Value}
variable {H H3 H4 H7 : GH}
theorem n102_0 : g102 call k [] a H K = g102 call k [0] a H (hSeq (g102 call k [1]) K) := at_seq (by kernel_rfl)
theorem n102_1 : g102 call k [0] a H K = o102 0 call [0] 0 a H (K .normal) := at_region (by kernel_rfl)
theorem n102_2 : g102 call k [1] a H K = g102 call k [1,0] a H (hSeq (g102 call k [1,1]) K) := at_seq (by kernel_rfl)
theorem n102_3 : g102 call k [1,0] a H K = o102 0 call [1,0] 0 a H (K .normal) := at_region (by kernel_rfl)
theorem n102_4 : g102 call k [1,1] a H K = g102 call k [1,1,0] a H (hSeq (g102 call k [1,1,1]) K) := at_seq (by kernel_rfl)
theorem n102_5 : g102 call k [1,1,0] a H K = o102 0 call [1,1,0] 0 a H (K .normal) := at_region (by kernel_rfl)
theorem n102_6 : g102 call k [1,1,1] a H K = g102 call k [1,1,1,0] a H (hSeq (g102 call k [1,1,1,1]) K) := at_seq (by kernel_rfl)
theorem n102_7 : g102 call k [1,1,1,0] a H K = g102 call k [1,1,1,0,0] a H (hSeq (g102 call k [1,1,1,0,1]) K) := at_seq (by kernel_rfl)
theorem n102_8 : g102 call k [1,1,1,0,0] a H K = o102 0 call [1,1,1,0,0] 0 a H (K .normal) := at_region (by kernel_rfl)
theorem n102_9 : g102 call k [1,1,1,0,1] a H K = g102 call k [1,1,1,0,1,0] a H (hBlock 0 K) := at_block (by kernel_rfl)
theorem n102_10 : g102 call k [1,1,1,0,1,0] a H K = gLoop (g102 call k [1,1,1,0,1,0,0]) K k a H := at_loop (by kernel_rfl)
theorem n102_11 : g102 call k [1,1,1,0,1,0,0] a H K = g102 call k [1,1,1,0,1,0,0,0] a H (hSeq (g102 call k [1,1,1,0,1,0,0,1]) K) := at_seq (by kernel_rfl)
theorem n102_12 : g102 call k [1,1,1,0,1,0,0,0] a H K = o102 0 call [1,1,1,0,1,0,0,0] 0 a H (K .normal) := at_region (by kernel_rfl)
theorem n102_13 : g102 call k [1,1,1,0,1,0,0,1] a H K = g102 call k [1,1,1,0,1,0,0,1,0] a H (hSeq (g102 call k [1,1,1,0,1,0,0,1,1]) K) := at_seq (by kernel_rfl)
theorem n102_14 : g102 call k [1,1,1,0,1,0,0,1,0] a H K = onBool (asB (GA.eval a (.tmp 17))) (g102 call k [1,1,1,0,1,0,0,1,0,0] a H K) (g102 call k [1,1,1,0,1,0,0,1,0,1] a H K) := at_cond (by kernel_rfl)
theorem n102_15 : g102 call k [1,1,1,0,1,0,0,1,0,0] a H K = K .normal a H := at_skip (by kernel_rfl)
theorem n102_16 : g102 call k [1,1,1,0,1,0,0,1,1] a H K = g102 call k [1,1,1,0,1,0,0,1,1,0] a H (hSeq (g102 call k [1,1,1,0,1,0,0,1,1,1]) K) := at_seq (by kernel_rfl)
theorem n102_17 : g102 call k [1,1,1,0,1,0,0,1,1,0] a H K = g102 call k [1,1,1,0,1,0,0,1,1,0,0] a H (hBlock 1 K) := at_block (by kernel_rfl)
theorem n102_18 : g102 call k [1,1,1,0,1,0,0,1,1,0,0] a H K = g102 call k [1,1,1,0,1,0,0,1,1,0,0,0] a H (hSeq (g102 call k [1,1,1,0,1,0,0,1,1,0,0,1]) K) := at_seq (by kernel_rfl)
theorem n102_19 : g102 call k [1,1,1,0,1,0,0,1,1,0,0,0] a H K = o102 0 call [1,1,1,0,1,0,0,1,1,0,0,0] 0 a H (K .normal) := at_region (by kernel_rfl)
theorem n102_20 : g102 call k [1,1,1,0,1,0,0,1,1,0,0,1] a H K = g102 call k [1,1,1,0,1,0,0,1,1,0,0,1,0] a H (hSeq (g102 call k [1,1,1,0,1,0,0,1,1,0,0,1,1]) K) := at_seq (by kernel_rfl)
theorem n102_21 : g102 call k [1,1,1,0,1,0,0,1,1,0,0,1,0] a H K = g102 call k [1,1,1,0,1,0,0,1,1,0,0,1,0,0] a H (hSeq (g102 call k [1,1,1,0,1,0,0,1,1,0,0,1,0,1]) K) := at_seq (by kernel_rfl)
theorem n102_22 : g102 call k [1,1,1,0,1,0,0,1,1,0,0,1,0,0] a H K = o102 0 call [1,1,1,0,1,0,0,1,1,0,0,1,0,0] 0 a H (K .normal) := at_region (by kernel_rfl)
theorem n102_23 : g102 call k [1,1,1,0,1,0,0,1,1,0,0,1,0,1] a H K = onBool (asB (GA.eval a (.tmp 22))) (g102 call k [1,1,1,0,1,0,0,1,1,0,0,1,0,1,0] a H K) (g102 call k [1,1,1,0,1,0,0,1,1,0,0,1,0,1,1] a H K) := at_cond (by kernel_rfl)
theorem n102_24 : g102 call k [1,1,1,0,1,0,0,1,1,0,0,1,0,1,0] a H K = K (.exit 1) a H := at_exit (by kernel_rfl)
theorem n102_25 : g102 call k [1,1,1,0,1,0,0,1,1,1] a H K = o102 0 call [1,1,1,0,1,0,0,1,1,1] 0 a H (K .normal) := at_region (by kernel_rfl)
theorem n102_26 : g102 call k [1,1,1,0,1,0,0,1,1,0,0,1,0,1,1] a H K = K .normal a H := at_skip (by kernel_rfl)
theorem n102_27 : g102 call k [1,1,1,0,1,0,0,1,1,0,0,1,1] a H K = g102 call k [1,1,1,0,1,0,0,1,1,0,0,1,1,0] a H (hSeq (g102 call k [1,1,1,0,1,0,0,1,1,0,0,1,1,1]) K) := at_seq (by kernel_rfl)
theorem n102_28 : g102 call k [1,1,1,0,1,0,0,1,1,0,0,1,1,0] a H K = g102 call k [1,1,1,0,1,0,0,1,1,0,0,1,1,0,0] a H (hSeq (g102 call k [1,1,1,0,1,0,0,1,1,0,0,1,1,0,1]) K) := at_seq (by kernel_rfl)
theorem n102_29 : g102 call k [1,1,1,0,1,0,0,1,0,1] a H K = K (.exit 0) a H := at_exit (by kernel_rfl)
theorem n102_30 : g102 call k [1,1,1,1] a H K = g102 call k [1,1,1,1,0] a H (hSeq (g102 call k [1,1,1,1,1]) K) := at_seq (by kernel_rfl)
theorem n102_31 : g102 call k [1,1,1,1,0] a H K = o102 0 call [1,1,1,1,0] 0 a H (K .normal) := at_region (by kernel_rfl)
theorem n102_32 : g102 call k [1,1,1,1,1] a H K = K .ret a H := at_ret (by kernel_rfl)
theorem n102_33 : g102 call k [1,1,1,0,1,0,0,1,1,0,0,1,1,0,0] a H K = o102 0 call [1,1,1,0,1,0,0,1,1,0,0,1,1,0,0] 0 a H (K .normal) := at_region (by kernel_rfl)
theorem n102_34 : g102 call k [1,1,1,0,1,0,0,1,1,0,0,1,1,0,1] a H K = g102 call k [1,1,1,0,1,0,0,1,1,0,0,1,1,0,1,0] a H (hSeq (g102 call k [1,1,1,0,1,0,0,1,1,0,0,1,1,0,1,1]) K) := at_seq (by kernel_rfl)
theorem n102_35 : g102 call k [1,1,1,0,1,0,0,1,1,0,0,1,1,0,1,0] a H K = o102 0 call [1,1,1,0,1,0,0,1,1,0,0,1,1,0,1,0] 0 a H (K .normal) := at_region (by kernel_rfl)
theorem n102_36 : g102 call k [1,1,1,0,1,0,0,1,1,0,0,1,1,0,1,1] a H K = onBool (asB (GA.eval a (.tmp 31))) (g102 call k [1,1,1,0,1,0,0,1,1,0,0,1,1,0,1,1,0] a H K) (g102 call k [1,1,1,0,1,0,0,1,1,0,0,1,1,0,1,1,1] a H K) := at_cond (by kernel_rfl)
theorem n102_37 : g102 call k [1,1,1,0,1,0,0,1,1,0,0,1,1,0,1,1,1] a H K = K .normal a H := at_skip (by kernel_rfl)
theorem n102_38 : g102 call k [1,1,1,0,1,0,0,1,1,0,0,1,1,0,1,1,0] a H K = o102 0 call [1,1,1,0,1,0,0,1,1,0,0,1,1,0,1,1,0] 0 a H (K .normal) := at_region (by kernel_rfl)
theorem n102_39 : g102 call k [1,1,1,0,1,0,0,1,1,0,0,1,1,1] a H K = o102 0 call [1,1,1,0,1,0,0,1,1,0,0,1,1,1] 0 a H (K .normal) := at_region (by kernel_rfl)
theorem s102_0 : o102 0 call [0] 0 (FG 49 (fun _ => undef) [(1, p1), (0, p0)]) H K' =
  K' (FG 49 (fun _ => undef) [(4, (.map none)), (2, (.pointer (some ⟨H.n, 0, none⟩))), (1, p1), (0, p0)]) (GH.push H (.row (Value.cells p0).toList 88 false)) := by kernel_rfl
theorem s102_1 : o102 0 call [1,0] 0 (FG 49 (fun _ => undef) [(4, (.map none)), (2, (.pointer (some ⟨H.n, 0, none⟩))), (1, p1), (0, p0)]) (GH.push H (.row (Value.cells p0).toList 88 false)) K' =
  K' (FG 49 (fun _ => undef) [(5, (.map (some (GH.push H (.row (Value.cells p0).toList 88 false)).n))), (11, (.map (some (GH.push H (.row (Value.cells p0).toList 88 false)).n))), (4, (.map none)), (2, (.pointer (some ⟨H.n, 0, none⟩))), (1, p1), (0, p0)]) (GH.push (GH.push H (.row (Value.cells p0).toList 88 false)) (.map [] 0)) := by kernel_rfl
theorem s102_2 : o102 0 call [1,1,0] 0 (FG 49 (fun _ => undef) [(5, (.map (some (GH.push H (.row (Value.cells p0).toList 88 false)).n))), (11, (.map (some (GH.push H (.row (Value.cells p0).toList 88 false)).n))), (4, (.map none)), (2, (.pointer (some ⟨H.n, 0, none⟩))), (1, p1), (0, p0)]) (GH.push (GH.push H (.row (Value.cells p0).toList 88 false)) (.map [] 0)) K' =
  onV (gLoad Try.prog 88 (.pointer (some ⟨H.n, 0, none⟩)) (GH.push (GH.push H (.row (Value.cells p0).toList 88 false)) (.map [] 0))) fun v1 =>
  onCall 0 call (.func (.func 97) #[] #[]) [v1] (GH.push (GH.push H (.row (Value.cells p0).toList 88 false)) (.map [] 0)) fun v2 H3 =>
  K' (FG 49 (fun _ => undef) [(6, v2), (13, v2), (12, v1), (5, (.map (some (GH.push H (.row (Value.cells p0).toList 88 false)).n))), (11, (.map (some (GH.push H (.row (Value.cells p0).toList 88 false)).n))), (4, (.map none)), (2, (.pointer (some ⟨H.n, 0, none⟩))), (1, p1), (0, p0)]) H3 := by kernel_rfl
theorem s102_3 : o102 0 call [1,1,1,0,0] 0 (FG 49 (fun _ => undef) [(6, v2), (13, v2), (12, v1), (5, (.map (some (GH.push H (.row (Value.cells p0).toList 88 false)).n))), (11, (.map (some (GH.push H (.row (Value.cells p0).toList 88 false)).n))), (4, (.map none)), (2, (.pointer (some ⟨H.n, 0, none⟩))), (1, p1), (0, p0)]) H3 K' =
  onV (oLen Try.prog 86 p1) fun v4 =>
  K' (FG 49 (fun _ => undef) [(16, (.int .i64 0)), (15, v4), (14, p1), (6, v2), (13, v2), (12, v1), (5, (.map (some (GH.push H (.row (Value.cells p0).toList 88 false)).n))), (11, (.map (some (GH.push H (.row (Value.cells p0).toList 88 false)).n))), (4, (.map none)), (2, (.pointer (some ⟨H.n, 0, none⟩))), (1, p1), (0, p0)]) H3 := by kernel_rfl
theorem s102_4 : o102 0 call [1,1,1,0,1,0,0,0] 0 (FF 49 d) H K' =
  onV ((oBin Try.prog .lss 3 (d 16) (d 15)).filter closed) fun v1 =>
  K' (FG 49 d [(17, v1)]) H := by kernel_rfl
theorem s102_5 : o102 0 call [1,1,1,0,1,0,0,1,1,0,0,0] 0 (FG 49 d [(17, v1)]) H K' =
  onV (oIndexAddr Try.prog 86 (d 14) (d 16)) fun v2 =>
  onV (gLoad Try.prog 91 v2 H) fun v3 =>
  onH (gStore Try.prog 91 (.pointer (some ⟨H.n, 0, none⟩)) v3 (GH.push H (.row [(.int .i64 0), (.int .i64 0), (.int .i64 0)] 91 false))) fun H4 =>
  K' (FG 49 d [(8, (.pointer (some ⟨H.n, 0, none⟩))), (19, v3), (18, v2), (17, v1)]) H4 := by kernel_rfl
theorem s102_6 : o102 0 call [1,1,1,0,1,0,0,1,1,0,0,1,0,0] 0 (FG 49 d [(8, (.pointer (some ⟨H.n, 0, none⟩))), (19, v3), (18, v2), (17, v1)]) H4 K' =
  onV (gLoad Try.prog 91 (.pointer (some ⟨H.n, 0, none⟩)) H4) fun v5 =>
  onCall 0 call (.func (.func 95) #[] #[]) [v5] H4 fun v6 H7 =>
  onV ((oUn Try.prog .not v6).filter closed) fun v8 =>
  K' (FG 49 d [(22, v8), (21, v6), (20, v5), (8, (.pointer (some ⟨H.n, 0, none⟩))), (19, v3), (18, v2), (17, v1)]) H7 := by kernel_rfl
theorem s102_7 : o102 0 call [1,1,1,0,1,0,0,1,1,1] 0 (FG 49 d [(22, v8), (21, v6), (20, v5), (8, (.pointer (some ⟨H.n, 0, none⟩))), (19, v3), (18, v2), (17, v1)]) H7 K' =
  onV ((oBin Try.prog .add 3 (d 16) (.int .i64 1)).filter closed) fun v9 =>
  K' (FG 49 d [(16, v9), (47, v9), (22, v8), (21, v6), (20, v5), (8, (.pointer (some ⟨H.n, 0, none⟩))), (19, v3), (18, v2), (17, v1)]) H7 := by kernel_rfl
theorem s102_8 : o102 0 call [1,1,1,1,0] 0 (FG 49 d [(17, v1)]) H K' =
  K' (FG 49 d [(4, (d 5)), (48, (d 5)), (17, v1)]) H := by kernel_rfl
theorem s102_9 : o102 0 call [1,1,1,0,1,0,0,1,1,0,0,1,1,0,0] 0 (FF 49 d) H K' =
  onV (oFieldAddr Try.prog 91 (d 8) 1) fun v1 =>
  onV (gLoad Try.prog 3 v1 H) fun v2 =>
  onV (gLookup Try.prog 186 (d 5) v2 true H) fun v3 =>
  onV (oExtract v3 0) fun v4 =>
  onV (oExtract v3 1) fun v5 =>
  K' (FG 49 d [(10, v5), (9, v4), (29, v5), (28, v4), (23, v3), (27, v3), (26, v2), (25, v1), (24, (d 5))]) H := by kernel_rfl
theorem s102_10 : o102 0 call [1,1,1,0,1,0,0,1,1,0,0,1,1,0,1,0] 0 (FG 49 d [(10, v5), (9, v4), (29, v5), (28, v4), (23, v3), (27, v3), (26, v2), (25, v1), (24, (d 5))]) H K' =
  onV ((oUn Try.prog .not v5).filter closed) fun v6 =>
  K' (FG 49 d [(31, v6), (30, v5), (10, v5), (9, v4), (29, v5), (28, v4), (23, v3), (27, v3), (26, v2), (25, v1), (24, (d 5))]) H := by kernel_rfl
theorem s102_11 : o102 0 call [1,1,1,0,1,0,0,1,1,0,0,1,1,0,1,1,0] 0 (FF 49 d) H K' =
  onV (oFieldAddr Try.prog 91 (d 8) 1) fun v1 =>
  onV (gLoad Try.prog 3 v1 H) fun v2 =>
  onV (oFieldAddr Try.prog 91 (d 8) 1) fun v3 =>
  onV (gLoad Try.prog 3 v3 H) fun v4 =>
  onV (gLookup Try.prog 186 (d 6) v4 false H) fun v5 =>
  onV ((oUn Try.prog .neg v5).filter closed) fun v6 =>
  onH (gMapUpdate Try.prog 186 (d 5) v2 v6 H) fun H7 =>
  K' (FG 49 d [(39, v6), (38, v5), (37, v4), (36, v3), (35, (d 6)), (34, v2), (33, v1), (32, (d 5))]) H7 := by kernel_rfl
theorem s102_12 : o102 0 call [1,1,1,0,1,0,0,1,1,0,0,1,1,1] 0 (FF 49 d) H K' =
  onV (oFieldAddr Try.prog 91 (d 8) 1) fun v1 =>
  onV (gLoad Try.prog 3 v1 H) fun v2 =>
  onV (gLookup Try.prog 186 (d 5) v2 false H) fun v3 =>
  onV (oFieldAddr Try.prog 91 (d 8) 2) fun v4 =>
  onV (gLoad Try.prog 3 v4 H) fun v5 =>
  onV ((oBin Try.prog .add 3 v3 v5).filter closed) fun v6 =>
  onH (gMapUpdate Try.prog 186 (d 5) v2 v6 H) fun H7 =>
  K' (FG 49 d [(46, v6), (45, v5), (44, v4), (43, v3), (42, v2), (41, v1), (40, (d 5))]) H7 := by kernel_rfl
theorem s102_13 : o102 0 call [1,1,1,0,1,0,0,1,1,1] 0 (FG 49 d [(46, v6), (45, v5), (44, v4), (43, v3), (42, v2), (41, v1), (40, (d 5))]) H7 K' =
  onV ((oBin Try.prog .add 3 (d 16) (.int .i64 1)).filter closed) fun v8 =>
  K' (FG 49 d [(16, v8), (47, v8), (46, v6), (45, v5), (44, v4), (43, v3), (42, v2), (41, v1), (40, (d 5))]) H7 := by kernel_rfl
def f102_l4_P (ag : AG) (sg : Sg5) : Prop := ∀ (d : Nat → Value) (H : GH), ag (FF 49 d) H = sg (d 5) (d 6) (d 14) (d 15) (d 16) H
theorem f102_l4_at {ag : AG} {sg : Sg5} (h : f102_l4_P ag sg) : ag (FF 49 d) H = sg (d 5) (d 6) (d 14) (d 15) (d 16) H := h d H
noncomputable def f102_r10 (call : Handle) (k : Nat) (sg_l4 : Sg5) (x5 x6 x8 x14 x15 x16 : Value) (H : GH) : M (Value × GH) :=
  onV (oFieldAddr Try.prog 91 x8 1) fun v1 =>
  onV (gLoad Try.prog 3 v1 H) fun v2 =>
  onV (gLookup Try.prog 186 x5 v2 false H) fun v3 =>
  onV (oFieldAddr Try.prog 91 x8 2) fun v4 =>
  onV (gLoad Try.prog 3 v4 H) fun v5 =>
  onV ((oBin Try.prog .add 3 v3 v5).filter closed) fun v6 =>
  onH (gMapUpdate Try.prog 186 x5 v2 v6 H) fun H7 =>
  onV ((oBin Try.prog .add 3 x16 (.int .i64 1)).filter closed) fun v8 =>
  (sg_l4 x5 x6 x14 x15 v8 H7)
theorem f102_r10_eq (call : Handle) (k : Nat) (ag_l4 : AG) (sg_l4 : Sg5) (h_l4 : f102_l4_P ag_l4 sg_l4) : g102 call k [1,1,1,0,1,0,0,1,1,0,0,1,1,1] (FF 49 d) H (hBlock 1 (hSeq (g102 call k [1,1,1,0,1,0,0,1,1,1]) (hLoop ag_l4 (hBlock 0 (hSeq (g102 call k [1,1,1,1]) (hFin Try.prog Try.f102)))))) = f102_r10 call k sg_l4 (d 5) (d 6) (d 8) (d 14) (d 15) (d 16) H := by
  unfold f102_r10
  rw [n102_39]
  rw [s102_12]
  refine onV_c fun v1 => ?_
  refine onV_c fun v2 => ?_
  refine onV_c fun v3 => ?_
  refine onV_c fun v4 => ?_
  refine onV_c fun v5 => ?_
  refine onV_c fun v6 => ?_
  refine onH_c fun H7 => ?_
  rw [hBlock_n]
  rw [hSeq_n]
  rw [n102_25]
  rw [s102_13]
  refine onV_c fun v8 => ?_
  rw [hLoop_n]
  generalize e : (FG 49 d [(16, v8), (47, v8), (46, v6), (45, v5), (44, v4), (43, v3), (42, v2), (41, v1), (40, (d 5))]) = a
  rw [show a = (FF 49 (gf a)) from (FF_gf (by subst e; exact FG_len)).symm]
  exact (f102_l4_at (d := gf a) h_l4).trans (by subst e; kernel_rfl)
noncomputable def f102_r9 (call : Handle) (k : Nat) (sg_l4 : Sg5) (x5 x6 x8 x14 x15 x16 : Value) (H : GH) : M (Value × GH) :=
  onV (oFieldAddr Try.prog 91 x8 1) fun v1 =>
  onV (gLoad Try.prog 3 v1 H) fun v2 =>
  onV (oFieldAddr Try.prog 91 x8 1) fun v3 =>
  onV (gLoad Try.prog 3 v3 H) fun v4 =>
  onV (gLookup Try.prog 186 x6 v4 false H) fun v5 =>
  onV ((oUn Try.prog .neg v5).filter closed) fun v6 =>
  onH (gMapUpdate Try.prog 186 x5 v2 v6 H) fun H7 =>
  (f102_r10 call k (sg_l4) x5 x6 x8 x14 x15 x16 H7)
theorem f102_r9_eq (call : Handle) (k : Nat) (ag_l4 : AG) (sg_l4 : Sg5) (h_l4 : f102_l4_P ag_l4 sg_l4) : g102 call k [1,1,1,0,1,0,0,1,1,0,0,1,1,0,1,1,0] (FF 49 d) H (hSeq (g102 call k [1,1,1,0,1,0,0,1,1,0,0,1,1,1]) (hBlock 1 (hSeq (g102 call k [1,1,1,0,1,0,0,1,1,1]) (hLoop ag_l4 (hBlock 0 (hSeq (g102 call k [1,1,1,1]) (hFin Try.prog Try.f102))))))) = f102_r9 call k sg_l4 (d 5) (d 6) (d 8) (d 14) (d 15) (d 16) H := by
  unfold f102_r9
  rw [n102_38]
  rw [s102_11]
  refine onV_c fun v1 => ?_
  refine onV_c fun v2 => ?_
  refine onV_c fun v3 => ?_
  refine onV_c fun v4 => ?_
  refine onV_c fun v5 => ?_
  refine onV_c fun v6 => ?_
  refine onH_c fun H7 => ?_
  rw [hSeq_n]
  generalize e : (FG 49 d [(39, v6), (38, v5), (37, v4), (36, v3), (35, (d 6)), (34, v2), (33, v1), (32, (d 5))]) = a
  rw [show a = (FF 49 (gf a)) from (FF_gf (by subst e; exact FG_len)).symm]
  exact (f102_r10_eq (d := gf a) call k ag_l4 sg_l4 h_l4).trans (by subst e; kernel_rfl)
noncomputable def f102_r7 (call : Handle) (k : Nat) (sg_l4 : Sg5) (x5 x6 x8 x14 x15 x16 : Value) (H : GH) : M (Value × GH) :=
  onV (oFieldAddr Try.prog 91 x8 1) fun v1 =>
  onV (gLoad Try.prog 3 v1 H) fun v2 =>
  onV (gLookup Try.prog 186 x5 v2 true H) fun v3 =>
  onV (oExtract v3 0) fun v4 =>
  onV (oExtract v3 1) fun v5 =>
  onV ((oUn Try.prog .not v5).filter closed) fun v6 =>
  onBool (asB v6)
  ((f102_r9 call k (sg_l4) x5 x6 x8 x14 x15 x16 H))
  ((f102_r10 call k (sg_l4) x5 x6 x8 x14 x15 x16 H))
theorem f102_r7_eq (call : Handle) (k : Nat) (ag_l4 : AG) (sg_l4 : Sg5) (h_l4 : f102_l4_P ag_l4 sg_l4) : g102 call k [1,1,1,0,1,0,0,1,1,0,0,1,1,0,0] (FF 49 d) H (hSeq (g102 call k [1,1,1,0,1,0,0,1,1,0,0,1,1,0,1]) (hSeq (g102 call k [1,1,1,0,1,0,0,1,1,0,0,1,1,1]) (hBlock 1 (hSeq (g102 call k [1,1,1,0,1,0,0,1,1,1]) (hLoop ag_l4 (hBlock 0 (hSeq (g102 call k [1,1,1,1]) (hFin Try.prog Try.f102)))))))) = f102_r7 call k sg_l4 (d 5) (d 6) (d 8) (d 14) (d 15) (d 16) H := by
  unfold f102_r7
  rw [n102_33]
  rw [s102_9]
  refine onV_c fun v1 => ?_
  refine onV_c fun v2 => ?_
  refine onV_c fun v3 => ?_
  refine onV_c fun v4 => ?_
  refine onV_c fun v5 => ?_
  rw [hSeq_n]
  rw [n102_34]
  rw [n102_35]
  rw [s102_10]
  refine onV_c fun v6 => ?_
  rw [hSeq_n]
  rw [n102_36]
  refine onBool_cc (by kernel_rfl) ?_ ?_
  · generalize e : (FG 49 d [(31, v6), (30, v5), (10, v5), (9, v4), (29, v5), (28, v4), (23, v3), (27, v3), (26, v2), (25, v1), (24, (d 5))]) = a
    rw [show a = (FF 49 (gf a)) from (FF_gf (by subst e; exact FG_len)).symm]
    exact (f102_r9_eq (d := gf a) call k ag_l4 sg_l4 h_l4).trans (by subst e; kernel_rfl)
  · rw [n102_37]
    rw [hSeq_n]
    generalize e : (FG 49 d [(31, v6), (30, v5), (10, v5), (9, v4), (29, v5), (28, v4), (23, v3), (27, v3), (26, v2), (25, v1), (24, (d 5))]) = a
    rw [show a = (FF 49 (gf a)) from (FF_gf (by subst e; exact FG_len)).symm]
    exact (f102_r10_eq (d := gf a) call k ag_l4 sg_l4 h_l4).trans (by subst e; kernel_rfl)
noncomputable def f102_l4b (call : Handle) (k : Nat) (sg_l4 : Sg5) (x5 x6 x14 x15 x16 : Value) (H : GH) : M (Value × GH) :=
  onV ((oBin Try.prog .lss 3 x16 x15).filter closed) fun v1 =>
  onBool (asB v1)
  (onV (oIndexAddr Try.prog 86 x14 x16) fun v2 =>
  onV (gLoad Try.prog 91 v2 H) fun v3 =>
  onH (gStore Try.prog 91 (.pointer (some ⟨H.n, 0, none⟩)) v3 (GH.push H (.row [(.int .i64 0), (.int .i64 0), (.int .i64 0)] 91 false))) fun H4 =>
  onV (gLoad Try.prog 91 (.pointer (some ⟨H.n, 0, none⟩)) H4) fun v5 =>
  onCall 0 call (.func (.func 95) #[] #[]) [v5] H4 fun v6 H7 =>
  onV ((oUn Try.prog .not v6).filter closed) fun v8 =>
  onBool (asB v8)
  (onV ((oBin Try.prog .add 3 x16 (.int .i64 1)).filter closed) fun v9 =>
  (sg_l4 x5 x6 x14 x15 v9 H7))
  ((f102_r7 call k (sg_l4) x5 x6 (.pointer (some ⟨H.n, 0, none⟩)) x14 x15 x16 H7)))
  (some [(x5, H)])
theorem f102_l4b_eq (call : Handle) (k : Nat) (ag_l4 : AG) (sg_l4 : Sg5) (h_l4 : f102_l4_P ag_l4 sg_l4) : g102 call k [1,1,1,0,1,0,0] (FF 49 d) H (hLoop ag_l4 (hBlock 0 (hSeq (g102 call k [1,1,1,1]) (hFin Try.prog Try.f102)))) = f102_l4b call k sg_l4 (d 5) (d 6) (d 14) (d 15) (d 16) H := by
  unfold f102_l4b
  rw [n102_11]
  rw [n102_12]
  rw [s102_4]
  refine onV_c fun v1 => ?_
  rw [hSeq_n]
  rw [n102_13]
  rw [n102_14]
  refine onBool_cc (by kernel_rfl) ?_ ?_
  · rw [n102_15]
    rw [hSeq_n]
    rw [n102_16]
    rw [n102_17]
    rw [n102_18]
    rw [n102_19]
    rw [s102_5]
    refine onV_c fun v2 => ?_
    refine onV_c fun v3 => ?_
    refine onH_c fun H4 => ?_
    rw [hSeq_n]
    rw [n102_20]
    rw [n102_21]
    rw [n102_22]
    rw [s102_6]
    refine onV_c fun v5 => ?_
    refine onCall_c fun v6 H7 => ?_
    refine onV_c fun v8 => ?_
    rw [hSeq_n]
    rw [n102_23]
    refine onBool_cc (by kernel_rfl) ?_ ?_
    · rw [n102_24]
      rw [hSeq_e, hBlock_hit]
      rw [hSeq_n]
      rw [n102_25]
      rw [s102_7]
      refine onV_c fun v9 => ?_
      rw [hLoop_n]
      generalize e : (FG 49 d [(16, v9), (47, v9), (22, v8), (21, v6), (20, v5), (8, (.pointer (some ⟨H.n, 0, none⟩))), (19, v3), (18, v2), (17, v1)]) = a
      rw [show a = (FF 49 (gf a)) from (FF_gf (by subst e; exact FG_len)).symm]
      exact (f102_l4_at (d := gf a) h_l4).trans (by subst e; kernel_rfl)
    · rw [n102_26]
      rw [hSeq_n]
      rw [n102_27]
      rw [n102_28]
      generalize e : (FG 49 d [(22, v8), (21, v6), (20, v5), (8, (.pointer (some ⟨H.n, 0, none⟩))), (19, v3), (18, v2), (17, v1)]) = a
      rw [show a = (FF 49 (gf a)) from (FF_gf (by subst e; exact FG_len)).symm]
      exact (f102_r7_eq (d := gf a) call k ag_l4 sg_l4 h_l4).trans (by subst e; kernel_rfl)
  · rw [n102_29]
    rw [hSeq_e, hLoop_e, hBlock_hit]
    rw [hSeq_n]
    rw [n102_30]
    rw [n102_31]
    rw [s102_8]
    rw [hSeq_n]
    rw [n102_32]
    kernel_rfl
noncomputable def f102_l4 (call : Handle) (k : Nat) : Nat → Value → Value → Value → Value → Value → GH → M (Value × GH)
  | 0, _, _, _, _, _, _ => none
  | r + 1, x5, x6, x14, x15, x16, H => f102_l4b call k (f102_l4 call k r) x5 x6 x14 x15 x16 H
theorem f102_l4_eq (call : Handle) (k : Nat) : ∀ (r : Nat), f102_l4_P (gLoop (g102 call k [1,1,1,0,1,0,0]) (hBlock 0 (hSeq (g102 call k [1,1,1,1]) (hFin Try.prog Try.f102))) r) (f102_l4 call k r) := by
  intro r
  induction r with
  | zero => unfold f102_l4_P; intros; rfl
  | succ r ih => unfold f102_l4_P; intros; exact f102_l4b_eq call k _ _ ih
noncomputable def f102_sh (call : Handle) (k : Nat) (p0 p1 : Value) (H : GH) : M (Value × GH) :=
  onV (gLoad Try.prog 88 (.pointer (some ⟨H.n, 0, none⟩)) (GH.push (GH.push H (.row (Value.cells p0).toList 88 false)) (.map [] 0))) fun v1 =>
  onCall 0 call (.func (.func 97) #[] #[]) [v1] (GH.push (GH.push H (.row (Value.cells p0).toList 88 false)) (.map [] 0)) fun v2 H3 =>
  onV (oLen Try.prog 86 p1) fun v4 =>
  (f102_l4 call k k (.map (some (GH.push H (.row (Value.cells p0).toList 88 false)).n)) v2 p1 v4 (.int .i64 0) H3)
theorem f102_run (call : Handle) (k : Nat) (p0 p1 : Value) (H : GH) : g102 call k [] (FG 49 (fun _ => undef) [(1, p1), (0, p0)]) H (hFin Try.prog Try.f102) = f102_sh call k p0 p1 H := by
  unfold f102_sh
  rw [n102_0]
  rw [n102_1]
  rw [s102_0]
  rw [hSeq_n]
  rw [n102_2]
  rw [n102_3]
  rw [s102_1]
  rw [hSeq_n]
  rw [n102_4]
  rw [n102_5]
  rw [s102_2]
  refine onV_c fun v1 => ?_
  refine onCall_c fun v2 H3 => ?_
  rw [hSeq_n]
  rw [n102_6]
  rw [n102_7]
  rw [n102_8]
  rw [s102_3]
  refine onV_c fun v4 => ?_
  rw [hSeq_n]
  rw [n102_9]
  rw [n102_10]
  generalize e : (FG 49 (fun _ => undef) [(16, (.int .i64 0)), (15, v4), (14, p1), (6, v2), (13, v2), (12, v1), (5, (.map (some (GH.push H (.row (Value.cells p0).toList 88 false)).n))), (11, (.map (some (GH.push H (.row (Value.cells p0).toList 88 false)).n))), (4, (.map none)), (2, (.pointer (some ⟨H.n, 0, none⟩))), (1, p1), (0, p0)]) = a
  rw [show a = (FF 49 (gf a)) from (FF_gf (by subst e; exact FG_len)).symm]
  exact (f102_l4_at (d := gf a) (f102_l4_eq call k k)).trans (by subst e; kernel_rfl)
theorem f102_eq (call : Handle) (k : Nat) (p0 p1 : Value) (H : GH) : gFunc Try.prog call k Try.f102 [p0, p1] H = f102_sh call k p0 p1 H :=
  Eq.trans (by kernel_rfl) (f102_run call k p0 p1 H)
end
noncomputable def g103 {β : Type} (call : Handle) (k : Nat) (p : List Nat) : GA → GH → Kont β → M β := gCode Try.prog call k (fAt Try.f103 p)
noncomputable def o103 {β : Type} (d : Nat) (call : Handle) (p : List Nat) (i : Nat) : GA → GH → (GA → GH → M β) → M β := gOps Try.prog d call (opsAt (fAt Try.f103 p)) ((opsAt (fAt Try.f103 p)).drop i)
noncomputable def t103 {β : Type} (d : Nat) (call : Handle) (p : List Nat) (i n : Nat) : GA → GH → (GA → GH → M β) → M β := gOps Try.prog d call (opsAt (fAt Try.f103 p)) (((opsAt (fAt Try.f103 p)).drop i).take n)
theorem o103_s {β : Type} {d : Nat} {call : Handle} {p : List Nat} {a : GA} {H : GH} {K : GA → GH → M β} (i n : Nat) : o103 d call p i a H K = t103 d call p i n a H fun a H => o103 d call p (i + n) a H K := gOps_split i n
section
variable {β : Type} {call : Handle} {k : Nat} {a : GA} {K : Kont β} {K' : GA → GH → M β}
variable {d : Nat → Value} {xg : Value}
variable {p0 p1 p2 : Value}
variable {v1 v2 v3 v4 v6 : Value}
variable {H H5 : GH}
theorem n103_0 : g103 call k [] a H K = g103 call k [0] a H (hSeq (g103 call k [1]) K) := at_seq (by kernel_rfl)
theorem n103_1 : g103 call k [0] a H K = o103 0 call [0] 0 a H (K .normal) := at_region (by kernel_rfl)
theorem n103_2 : g103 call k [1] a H K = g103 call k [1,0] a H (hSeq (g103 call k [1,1]) K) := at_seq (by kernel_rfl)
theorem n103_3 : g103 call k [1,0] a H K = o103 0 call [1,0] 0 a H (K .normal) := at_region (by kernel_rfl)
theorem n103_4 : g103 call k [1,1] a H K = g103 call k [1,1,0] a H (hSeq (g103 call k [1,1,1]) K) := at_seq (by kernel_rfl)
theorem n103_5 : g103 call k [1,1,0] a H K = o103 0 call [1,1,0] 0 a H (K .normal) := at_region (by kernel_rfl)
theorem n103_6 : g103 call k [1,1,1] a H K = g103 call k [1,1,1,0] a H (hSeq (g103 call k [1,1,1,1]) K) := at_seq (by kernel_rfl)
theorem n103_7 : g103 call k [1,1,1,0] a H K = g103 call k [1,1,1,0,0] a H (hBlock 0 K) := at_block (by kernel_rfl)
theorem n103_8 : g103 call k [1,1,1,0,0] a H K = gLoop (g103 call k [1,1,1,0,0,0]) K k a H := at_loop (by kernel_rfl)
theorem n103_9 : g103 call k [1,1,1,0,0,0] a H K = g103 call k [1,1,1,0,0,0,0] a H (hSeq (g103 call k [1,1,1,0,0,0,1]) K) := at_seq (by kernel_rfl)
theorem n103_10 : g103 call k [1,1,1,0,0,0,0] a H K = g103 call k [1,1,1,0,0,0,0,0] a H (hSeq (g103 call k [1,1,1,0,0,0,0,1]) K) := at_seq (by kernel_rfl)
theorem n103_11 : g103 call k [1,1,1,0,0,0,0,0] a H K = o103 0 call [1,1,1,0,0,0,0,0] 0 a H (K .normal) := at_region (by kernel_rfl)
theorem n103_12 : g103 call k [1,1,1,0,0,0,0,1] a H K = onBool (asB (GA.eval a (.tmp 17))) (g103 call k [1,1,1,0,0,0,0,1,0] a H K) (g103 call k [1,1,1,0,0,0,0,1,1] a H K) := at_cond (by kernel_rfl)
theorem n103_13 : g103 call k [1,1,1,0,0,0,0,1,0] a H K = K .normal a H := at_skip (by kernel_rfl)
theorem n103_14 : g103 call k [1,1,1,0,0,0,1] a H K = g103 call k [1,1,1,0,0,0,1,0] a H (hBlock 1 K) := at_block (by kernel_rfl)
theorem n103_15 : g103 call k [1,1,1,0,0,0,1,0] a H K = g103 call k [1,1,1,0,0,0,1,0,0] a H (hSeq (g103 call k [1,1,1,0,0,0,1,0,1]) K) := at_seq (by kernel_rfl)
theorem n103_16 : g103 call k [1,1,1,0,0,0,1,0,0] a H K = o103 0 call [1,1,1,0,0,0,1,0,0] 0 a H (K .normal) := at_region (by kernel_rfl)
theorem n103_17 : g103 call k [1,1,1,0,0,0,1,0,1] a H K = g103 call k [1,1,1,0,0,0,1,0,1,0] a H (hSeq (g103 call k [1,1,1,0,0,0,1,0,1,1]) K) := at_seq (by kernel_rfl)
theorem n103_18 : g103 call k [1,1,1,0,0,0,0,1,1] a H K = K (.exit 0) a H := at_exit (by kernel_rfl)
theorem n103_19 : g103 call k [1,1,1,0,0,0,1,0,1,0] a H K = o103 1 call [1,1,1,0,0,0,1,0,1,0] 0 a H (K .normal) := at_region (by kernel_rfl)
theorem n103_20 : g103 call k [1,1,1,0,0,0,1,0,1,1] a H K = onBool (asB (GA.eval a (.tmp 31))) (g103 call k [1,1,1,0,0,0,1,0,1,1,0] a H K) (g103 call k [1,1,1,0,0,0,1,0,1,1,1] a H K) := at_cond (by kernel_rfl)
theorem n103_21 : g103 call k [1,1,1,0,0,0,1,0,1,1,0] a H K = o103 0 call [1,1,1,0,0,0,1,0,1,1,0] 0 a H (K .normal) := at_region (by kernel_rfl)
theorem n103_22 : g103 call k [1,1,1,0,0,0,1,0,1,1,1] a H K = o103 0 call [1,1,1,0,0,0,1,0,1,1,1] 0 a H (K .normal) := at_region (by kernel_rfl)
theorem n103_23 : g103 call k [1,1,1,1] a H K = g103 call k [1,1,1,1,0] a H (hSeq (g103 call k [1,1,1,1,1]) K) := at_seq (by kernel_rfl)
theorem n103_24 : g103 call k [1,1,1,1,0] a H K = o103 1 call [1,1,1,1,0] 0 a H (K .normal) := at_region (by kernel_rfl)
theorem n103_25 : g103 call k [1,1,1,1,1] a H K = K .ret a H := at_ret (by kernel_rfl)
theorem s103_0 : o103 0 call [0] 0 (FG 49 (fun _ => undef) [(2, p2), (1, p1), (0, p0)]) H K' =
  K' (FG 49 (fun _ => undef) [(7, (.bool false)), (6, (.int .i64 0)), (4, (.pointer (some ⟨H.n, 0, none⟩))), (2, p2), (1, p1), (0, p0)]) (GH.push H (.row (Value.cells p1).toList 91 false)) := by kernel_rfl
theorem s103_1 : o103 0 call [1,0] 0 (FG 49 (fun _ => undef) [(7, (.bool false)), (6, (.int .i64 0)), (4, (.pointer (some ⟨H.n, 0, none⟩))), (2, p2), (1, p1), (0, p0)]) (GH.push H (.row (Value.cells p1).toList 91 false)) K' =
  onV (oLen Try.prog 86 p0) fun v1 =>
  K' (FG 49 (fun _ => undef) [(8, v1), (13, v1), (12, p0), (7, (.bool false)), (6, (.int .i64 0)), (4, (.pointer (some ⟨H.n, 0, none⟩))), (2, p2), (1, p1), (0, p0)]) (GH.push H (.row (Value.cells p1).toList 91 false)) := by kernel_rfl
theorem s103_2 : o103 0 call [1,1,0] 0 (FG 49 (fun _ => undef) [(8, v1), (13, v1), (12, p0), (7, (.bool false)), (6, (.int .i64 0)), (4, (.pointer (some ⟨H.n, 0, none⟩))), (2, p2), (1, p1), (0, p0)]) (GH.push H (.row (Value.cells p1).toList 91 false)) K' =
  K' (FG 49 (fun _ => undef) [(10, v1), (9, (.int .i64 0)), (14, v1), (8, v1), (13, v1), (12, p0), (7, (.bool false)), (6, (.int .i64 0)), (4, (.pointer (some ⟨H.n, 0, none⟩))), (2, p2), (1, p1), (0, p0)]) (GH.push H (.row (Value.cells p1).toList 91 false)) := by kernel_rfl
theorem s103_3 : o103 0 call [1,1,1,0,0,0,0,0] 0 (FF 49 d) H K' =
  onV ((oBin Try.prog .lss 3 (d 9) (d 10)).filter closed) fun v1 =>
  K' (FG 49 d [(17, v1), (16, (d 10)), (15, (d 9))]) H := by kernel_rfl
theorem s103_4 : o103 0 call [1,1,1,0,0,0,1,0,0] 0 (FG 49 d [(17, v1), (16, (d 10)), (15, (d 9))]) H K' =
  onV ((oBin Try.prog .add 3 (d 9) (d 10)).filter closed) fun v2 =>
  onV ((oConvert Try.prog 3 234 v2).filter closed) fun v3 =>
  onV ((oBin Try.prog .shr 234 v3 (.int .u64 1)).filter closed) fun v4 =>
  onV ((oConvert Try.prog 234 3 v4).filter closed) fun v5 =>
  K' (FG 49 d [(11, v5), (23, v5), (22, v4), (21, v3), (20, v2), (19, (d 10)), (18, (d 9)), (17, v1), (16, (d 10)), (15, (d 9))]) H := by kernel_rfl
theorem s103_5 : o103 1 call [1,1,1,0,0,0,1,0,1,0] 0 (FF 49 d) H K' =
  onV (oIndexAddr Try.prog 86 (d 0) (d 11)) fun v1 =>
  onV (gLoad Try.prog 91 v1 H) fun v2 =>
  onV (gLoad Try.prog 91 (d 4) H) fun v3 =>
  onCall 1 call (d 2) [v2, v3] H fun v4 H5 =>
  onV ((oBin Try.prog .lss 3 v4 (.int .i64 0)).filter closed) fun v6 =>
  K' (FG 49 d [(31, v6), (30, v4), (29, v3), (28, v2), (27, v1), (26, (d 11)), (25, (d 0)), (24, (d 2))]) H5 := by kernel_rfl
theorem s103_6 : o103 0 call [1,1,1,0,0,0,1,0,1,1,0] 0 (FG 49 d [(31, v6), (30, v4), (29, v3), (28, v2), (27, v1), (26, (d 11)), (25, (d 0)), (24, (d 2))]) H5 K' =
  onV ((oBin Try.prog .add 3 (d 11) (.int .i64 1)).filter closed) fun v7 =>
  K' (FG 49 d [(9, v7), (33, v7), (32, (d 11)), (31, v6), (30, v4), (29, v3), (28, v2), (27, v1), (26, (d 11)), (25, (d 0)), (24, (d 2))]) H5 := by kernel_rfl
theorem s103_7 : o103 0 call [1,1,1,0,0,0,1,0,1,1,1] 0 (FG 49 d [(31, v6), (30, v4), (29, v3), (28, v2), (27, v1), (26, (d 11)), (25, (d 0)), (24, (d 2))]) H5 K' =
  K' (FG 49 d [(10, (d 11)), (34, (d 11)), (31, v6), (30, v4), (29, v3), (28, v2), (27, v1), (26, (d 11)), (25, (d 0)), (24, (d 2))]) H5 := by kernel_rfl
theorem s103_8 : t103 1 call [1,1,1,1,0] 0 5 (FF 49 d) H K' =
  onV ((oBin Try.prog .lss 3 (d 9) (d 8)).filter closed) fun v1 =>
  onGrd true v1 (K' (FG 49 d [(39, v1), (38, v1), (37, (d 8)), (36, (d 9)), (35, (d 9))]) H) := by kernel_rfl
theorem s103_9 : o103 1 call [1,1,1,1,0] 5 (FG 49 d [(39, (.bool true))]) H K' =
  onV (oIndexAddr Try.prog 86 (d 0) (d 9)) fun v1 =>
  onV (gLoad Try.prog 91 v1 H) fun v2 =>
  onV (gLoad Try.prog 91 (d 4) H) fun v3 =>
  onCall 1 call (d 2) [v2, v3] H fun v4 H5 =>
  onV ((oBin Try.prog .eql 3 v4 (.int .i64 0)).filter closed) fun v6 =>
  K' (FG 49 d [(7, v6), (6, (d 35)), (48, v6), (47, v6), (46, v4), (45, v3), (44, v2), (43, v1), (42, (d 9)), (41, (d 0)), (40, (d 2)), (39, (.bool true))]) H5 := by kernel_rfl
theorem s103_10 : o103 1 call [1,1,1,1,0] 5 (FG 49 d [(39, (.bool false))]) H K' =
  K' (FG 49 d [(7, (.bool false)), (6, (d 35)), (48, (.bool false)), (47, undef), (46, undef), (45, undef), (44, undef), (43, undef), (42, undef), (41, undef), (40, undef), (39, (.bool false))]) H := by kernel_rfl
def f103_l3_P (ag : AG) (sg : Sg6) : Prop := ∀ (d : Nat → Value) (H : GH), ag (FF 49 d) H = sg (d 0) (d 2) (d 4) (d 8) (d 9) (d 10) H
theorem f103_l3_at {ag : AG} {sg : Sg6} (h : f103_l3_P ag sg) : ag (FF 49 d) H = sg (d 0) (d 2) (d 4) (d 8) (d 9) (d 10) H := h d H
noncomputable def f103_r5 (call : Handle) (k : Nat) (sg_l3 : Sg6) (x0 x2 x4 x8 x9 x10 x11 : Value) (H : GH) : M (Value × GH) :=
  onV (oIndexAddr Try.prog 86 x0 x11) fun v1 =>
  onV (gLoad Try.prog 91 v1 H) fun v2 =>
  onV (gLoad Try.prog 91 x4 H) fun v3 =>
  onCall 1 call x2 [v2, v3] H fun v4 H5 =>
  onV ((oBin Try.prog .lss 3 v4 (.int .i64 0)).filter closed) fun v6 =>
  onBool (asB v6)
  (onV ((oBin Try.prog .add 3 x11 (.int .i64 1)).filter closed) fun v7 =>
  (sg_l3 x0 x2 x4 x8 v7 x10 H5))
  ((sg_l3 x0 x2 x4 x8 x9 x11 H5))
theorem f103_r5_eq (call : Handle) (k : Nat) (ag_l3 : AG) (sg_l3 : Sg6) (h_l3 : f103_l3_P ag_l3 sg_l3) : g103 call k [1,1,1,0,0,0,1,0,1,0] (FF 49 d) H (hSeq (g103 call k [1,1,1,0,0,0,1,0,1,1]) (hBlock 1 (hLoop ag_l3 (hBlock 0 (hSeq (g103 call k [1,1,1,1]) (hFin Try.prog Try.f103)))))) = f103_r5 call k sg_l3 (d 0) (d 2) (d 4) (d 8) (d 9) (d 10) (d 11) H := by
  unfold f103_r5
  rw [n103_19]
  rw [s103_5]
  refine onV_c fun v1 => ?_
  refine onV_c fun v2 => ?_
  refine onV_c fun v3 => ?_
  refine onCall_c fun v4 H5 => ?_
  refine onV_c fun v6 => ?_
  rw [hSeq_n]
  rw [n103_20]
  refine onBool_cc (by kernel_rfl) ?_ ?_
  · rw [n103_21]
    rw [s103_6]
    refine onV_c fun v7 => ?_
    rw [hBlock_n]
    rw [hLoop_n]
    generalize e : (FG 49 d [(9, v7), (33, v7), (32, (d 11)), (31, v6), (30, v4), (29, v3), (28, v2), (27, v1), (26, (d 11)), (25, (d 0)), (24, (d 2))]) = a
    rw [show a = (FF 49 (gf a)) from (FF_gf (by subst e; exact FG_len)).symm]
    exact (f103_l3_at (d := gf a) h_l3).trans (by subst e; kernel_rfl)
  · rw [n103_22]
    rw [s103_7]
    rw [hBlock_n]
    rw [hLoop_n]
    generalize e : (FG 49 d [(10, (d 11)), (34, (d 11)), (31, v6), (30, v4), (29, v3), (28, v2), (27, v1), (26, (d 11)), (25, (d 0)), (24, (d 2))]) = a
    rw [show a = (FF 49 (gf a)) from (FF_gf (by subst e; exact FG_len)).symm]
    exact (f103_l3_at (d := gf a) h_l3).trans (by subst e; kernel_rfl)
noncomputable def f103_g8_5 (call : Handle) (k : Nat) (x39 : Value) (x0 x2 x4 x9 x35 : Value) (H : GH) : M (Value × GH) :=
 onBool (asB x39)
  (onV (oIndexAddr Try.prog 86 x0 x9) fun v1 =>
  onV (gLoad Try.prog 91 v1 H) fun v2 =>
  onV (gLoad Try.prog 91 x4 H) fun v3 =>
  onCall 1 call x2 [v2, v3] H fun v4 H5 =>
  onV ((oBin Try.prog .eql 3 v4 (.int .i64 0)).filter closed) fun v6 =>
  some [((.tuple #[x35, v6]), H5)])
  (some [((.tuple #[x35, (.bool false)]), H)])
theorem f103_g8_5_true (call : Handle) (k : Nat) : o103 1 call [1,1,1,1,0] 5 (FG 49 d [(39, (.bool true))]) H ((hSeq (g103 call k [1,1,1,1,1]) (hFin Try.prog Try.f103)) .normal) =
  onV (oIndexAddr Try.prog 86 (d 0) (d 9)) fun v1 =>
  onV (gLoad Try.prog 91 v1 H) fun v2 =>
  onV (gLoad Try.prog 91 (d 4) H) fun v3 =>
  onCall 1 call (d 2) [v2, v3] H fun v4 H5 =>
  onV ((oBin Try.prog .eql 3 v4 (.int .i64 0)).filter closed) fun v6 =>
  some [((.tuple #[(d 35), v6]), H5)] := by
  rw [s103_9]
  refine onV_c fun v1 => ?_
  refine onV_c fun v2 => ?_
  refine onV_c fun v3 => ?_
  refine onCall_c fun v4 H5 => ?_
  refine onV_c fun v6 => ?_
  rw [hSeq_n]
  rw [n103_25]
  kernel_rfl
theorem f103_g8_5_false (call : Handle) (k : Nat) : o103 1 call [1,1,1,1,0] 5 (FG 49 d [(39, (.bool false))]) H ((hSeq (g103 call k [1,1,1,1,1]) (hFin Try.prog Try.f103)) .normal) =
  some [((.tuple #[(d 35), (.bool false)]), H)] := by
  rw [s103_10]
  rw [hSeq_n]
  rw [n103_25]
  kernel_rfl
theorem f103_g8_5_eq (call : Handle) (k : Nat) : onGrd true xg (o103 1 call [1,1,1,1,0] 5 (FG 49 d [(39, xg)]) H ((hSeq (g103 call k [1,1,1,1,1]) (hFin Try.prog Try.f103)) .normal)) =
  f103_g8_5 call k xg (d 0) (d 2) (d 4) (d 9) (d 35) H := by
  cases xg with
  | bool b => cases b with
    | true => exact onGrd_b.trans (f103_g8_5_true call k)
    | false => exact onGrd_b.trans (f103_g8_5_false call k)
  | _ => kernel_rfl
noncomputable def f103_r8 (call : Handle) (k : Nat) (x0 x2 x4 x8 x9 : Value) (H : GH) : M (Value × GH) :=
  onV ((oBin Try.prog .lss 3 x9 x8).filter closed) fun v1 =>
  (f103_g8_5 call k v1 x0 x2 x4 x9 x9 H)
theorem f103_r8_eq (call : Handle) (k : Nat) : g103 call k [1,1,1,1] (FF 49 d) H (hFin Try.prog Try.f103) = f103_r8 call k (d 0) (d 2) (d 4) (d 8) (d 9) H := by
  unfold f103_r8
  rw [n103_23]
  rw [n103_24]
  rw [o103_s 0 5, s103_8]
  refine onV_c fun v1 => ?_
  generalize e : (FG 49 d [(39, v1), (38, v1), (37, (d 8)), (36, (d 9)), (35, (d 9))]) = a
  rw [show a = (FG 49 (gf a) [(39, v1)]) from (FG_eq (by subst e; exact FG_len) (FS_cons (by subst e; kernel_rfl) (FS_nil))).symm]
  exact (f103_g8_5_eq (d := gf a) call k).trans (by subst e; kernel_rfl)
noncomputable def f103_l3b (call : Handle) (k : Nat) (sg_l3 : Sg6) (x0 x2 x4 x8 x9 x10 : Value) (H : GH) : M (Value × GH) :=
  onV ((oBin Try.prog .lss 3 x9 x10).filter closed) fun v1 =>
  onBool (asB v1)
  (onV ((oBin Try.prog .add 3 x9 x10).filter closed) fun v2 =>
  onV ((oConvert Try.prog 3 234 v2).filter closed) fun v3 =>
  onV ((oBin Try.prog .shr 234 v3 (.int .u64 1)).filter closed) fun v4 =>
  onV ((oConvert Try.prog 234 3 v4).filter closed) fun v5 =>
  (f103_r5 call k (sg_l3) x0 x2 x4 x8 x9 x10 v5 H))
  ((f103_r8 call k x0 x2 x4 x8 x9 H))
theorem f103_l3b_eq (call : Handle) (k : Nat) (ag_l3 : AG) (sg_l3 : Sg6) (h_l3 : f103_l3_P ag_l3 sg_l3) : g103 call k [1,1,1,0,0,0] (FF 49 d) H (hLoop ag_l3 (hBlock 0 (hSeq (g103 call k [1,1,1,1]) (hFin Try.prog Try.f103)))) = f103_l3b call k sg_l3 (d 0) (d 2) (d 4) (d 8) (d 9) (d 10) H := by
  unfold f103_l3b
  rw [n103_9]
  rw [n103_10]
  rw [n103_11]
  rw [s103_3]
  refine onV_c fun v1 => ?_
  rw [hSeq_n]
  rw [n103_12]
  refine onBool_cc (by kernel_rfl) ?_ ?_
  · rw [n103_13]
    rw [hSeq_n]
    rw [n103_14]
    rw [n103_15]
    rw [n103_16]
    rw [s103_4]
    refine onV_c fun v2 => ?_
    refine onV_c fun v3 => ?_
    refine onV_c fun v4 => ?_
    refine onV_c fun v5 => ?_
    rw [hSeq_n]
    rw [n103_17]
    generalize e : (FG 49 d [(11, v5), (23, v5), (22, v4), (21, v3), (20, v2), (19, (d 10)), (18, (d 9)), (17, v1), (16, (d 10)), (15, (d 9))]) = a
    rw [show a = (FF 49 (gf a)) from (FF_gf (by subst e; exact FG_len)).symm]
    exact (f103_r5_eq (d := gf a) call k ag_l3 sg_l3 h_l3).trans (by subst e; kernel_rfl)
  · rw [n103_18]
    rw [hSeq_e, hLoop_e, hBlock_hit]
    rw [hSeq_n]
    generalize e : (FG 49 d [(17, v1), (16, (d 10)), (15, (d 9))]) = a
    rw [show a = (FF 49 (gf a)) from (FF_gf (by subst e; exact FG_len)).symm]
    exact (f103_r8_eq (d := gf a) call k).trans (by subst e; kernel_rfl)
noncomputable def f103_l3 (call : Handle) (k : Nat) : Nat → Value → Value → Value → Value → Value → Value → GH → M (Value × GH)
  | 0, _, _, _, _, _, _, _ => none
  | r + 1, x0, x2, x4, x8, x9, x10, H => f103_l3b call k (f103_l3 call k r) x0 x2 x4 x8 x9 x10 H
theorem f103_l3_eq (call : Handle) (k : Nat) : ∀ (r : Nat), f103_l3_P (gLoop (g103 call k [1,1,1,0,0,0]) (hBlock 0 (hSeq (g103 call k [1,1,1,1]) (hFin Try.prog Try.f103))) r) (f103_l3 call k r) := by
  intro r
  induction r with
  | zero => unfold f103_l3_P; intros; rfl
  | succ r ih => unfold f103_l3_P; intros; exact f103_l3b_eq call k _ _ ih
noncomputable def f103_sh (call : Handle) (k : Nat) (p0 p1 p2 : Value) (H : GH) : M (Value × GH) :=
  onV (oLen Try.prog 86 p0) fun v1 =>
  (f103_l3 call k k p0 p2 (.pointer (some ⟨H.n, 0, none⟩)) v1 (.int .i64 0) v1 (GH.push H (.row (Value.cells p1).toList 91 false)))
theorem f103_run (call : Handle) (k : Nat) (p0 p1 p2 : Value) (H : GH) : g103 call k [] (FG 49 (fun _ => undef) [(2, p2), (1, p1), (0, p0)]) H (hFin Try.prog Try.f103) = f103_sh call k p0 p1 p2 H := by
  unfold f103_sh
  rw [n103_0]
  rw [n103_1]
  rw [s103_0]
  rw [hSeq_n]
  rw [n103_2]
  rw [n103_3]
  rw [s103_1]
  refine onV_c fun v1 => ?_
  rw [hSeq_n]
  rw [n103_4]
  rw [n103_5]
  rw [s103_2]
  rw [hSeq_n]
  rw [n103_6]
  rw [n103_7]
  rw [n103_8]
  generalize e : (FG 49 (fun _ => undef) [(10, v1), (9, (.int .i64 0)), (14, v1), (8, v1), (13, v1), (12, p0), (7, (.bool false)), (6, (.int .i64 0)), (4, (.pointer (some ⟨H.n, 0, none⟩))), (2, p2), (1, p1), (0, p0)]) = a
  rw [show a = (FF 49 (gf a)) from (FF_gf (by subst e; exact FG_len)).symm]
  exact (f103_l3_at (d := gf a) (f103_l3_eq call k k)).trans (by subst e; kernel_rfl)
theorem f103_eq (call : Handle) (k : Nat) (p0 p1 p2 : Value) (H : GH) : gFunc Try.prog call k Try.f103 [p0, p1, p2] H = f103_sh call k p0 p1 p2 H :=
  Eq.trans (by kernel_rfl) (f103_run call k p0 p1 p2 H)
end
noncomputable def g104 {β : Type} (call : Handle) (k : Nat) (p : List Nat) : GA → GH → Kont β → M β := gCode Try.prog call k (fAt Try.f104 p)
noncomputable def o104 {β : Type} (d : Nat) (call : Handle) (p : List Nat) (i : Nat) : GA → GH → (GA → GH → M β) → M β := gOps Try.prog d call (opsAt (fAt Try.f104 p)) ((opsAt (fAt Try.f104 p)).drop i)
noncomputable def t104 {β : Type} (d : Nat) (call : Handle) (p : List Nat) (i n : Nat) : GA → GH → (GA → GH → M β) → M β := gOps Try.prog d call (opsAt (fAt Try.f104 p)) (((opsAt (fAt Try.f104 p)).drop i).take n)
theorem o104_s {β : Type} {d : Nat} {call : Handle} {p : List Nat} {a : GA} {H : GH} {K : GA → GH → M β} (i n : Nat) : o104 d call p i a H K = t104 d call p i n a H fun a H => o104 d call p (i + n) a H K := gOps_split i n
section
variable {β : Type} {call : Handle} {k : Nat} {a : GA} {K : Kont β} {K' : GA → GH → M β}
variable {d : Nat → Value} {xg : Value}
variable {p0 p1 p2 : Value}
variable {v1 v2 v3 v4 v5 v6 v7 : Value}
variable {H H3 H5 H6 H8 : GH}
theorem n104_0 : g104 call k [] a H K = g104 call k [0] a H (hSeq (g104 call k [1]) K) := at_seq (by kernel_rfl)
theorem n104_1 : g104 call k [0] a H K = o104 0 call [0] 0 a H (K .normal) := at_region (by kernel_rfl)
theorem n104_2 : g104 call k [1] a H K = g104 call k [1,0] a H (hSeq (g104 call k [1,1]) K) := at_seq (by kernel_rfl)
theorem n104_3 : g104 call k [1,0] a H K = o104 0 call [1,0] 0 a H (K .normal) := at_region (by kernel_rfl)
theorem n104_4 : g104 call k [1,1] a H K = g104 call k [1,1,0] a H (hSeq (g104 call k [1,1,1]) K) := at_seq (by kernel_rfl)
theorem n104_5 : g104 call k [1,1,0] a H K = o104 0 call [1,1,0] 0 a H (K .normal) := at_region (by kernel_rfl)
theorem n104_6 : g104 call k [1,1,1] a H K = g104 call k [1,1,1,0] a H (hSeq (g104 call k [1,1,1,1]) K) := at_seq (by kernel_rfl)
theorem n104_7 : g104 call k [1,1,1,0] a H K = g104 call k [1,1,1,0,0] a H (hSeq (g104 call k [1,1,1,0,1]) K) := at_seq (by kernel_rfl)
theorem n104_8 : g104 call k [1,1,1,0,0] a H K = o104 0 call [1,1,1,0,0] 0 a H (K .normal) := at_region (by kernel_rfl)
theorem n104_9 : g104 call k [1,1,1,0,1] a H K = onBool (asB (GA.eval a (.tmp 16))) (g104 call k [1,1,1,0,1,0] a H K) (g104 call k [1,1,1,0,1,1] a H K) := at_cond (by kernel_rfl)
theorem n104_10 : g104 call k [1,1,1,0,1,0] a H K = g104 call k [1,1,1,0,1,0,0] a H (hSeq (g104 call k [1,1,1,0,1,0,1]) K) := at_seq (by kernel_rfl)
theorem n104_11 : g104 call k [1,1,1,0,1,0,0] a H K = o104 0 call [1,1,1,0,1,0,0] 0 a H (K .normal) := at_region (by kernel_rfl)
theorem n104_12 : g104 call k [1,1,1,0,1,0,1] a H K = K .ret a H := at_ret (by kernel_rfl)
theorem n104_13 : g104 call k [1,1,1,0,1,1] a H K = K .normal a H := at_skip (by kernel_rfl)
theorem n104_14 : g104 call k [1,1,1,1] a H K = g104 call k [1,1,1,1,0] a H (hSeq (g104 call k [1,1,1,1,1]) K) := at_seq (by kernel_rfl)
theorem n104_15 : g104 call k [1,1,1,1,0] a H K = o104 0 call [1,1,1,1,0] 0 a H (K .normal) := at_region (by kernel_rfl)
theorem n104_16 : g104 call k [1,1,1,1,1] a H K = g104 call k [1,1,1,1,1,0] a H (hSeq (g104 call k [1,1,1,1,1,1]) K) := at_seq (by kernel_rfl)
theorem n104_17 : g104 call k [1,1,1,1,1,0] a H K = g104 call k [1,1,1,1,1,0,0] a H (hSeq (g104 call k [1,1,1,1,1,0,1]) K) := at_seq (by kernel_rfl)
theorem n104_18 : g104 call k [1,1,1,1,1,0,0] a H K = o104 0 call [1,1,1,1,1,0,0] 0 a H (K .normal) := at_region (by kernel_rfl)
theorem n104_19 : g104 call k [1,1,1,1,1,0,1] a H K = onBool (asB (GA.eval a (.tmp 22))) (g104 call k [1,1,1,1,1,0,1,0] a H K) (g104 call k [1,1,1,1,1,0,1,1] a H K) := at_cond (by kernel_rfl)
theorem n104_20 : g104 call k [1,1,1,1,1,0,1,0] a H K = g104 call k [1,1,1,1,1,0,1,0,0] a H (hSeq (g104 call k [1,1,1,1,1,0,1,0,1]) K) := at_seq (by kernel_rfl)
theorem n104_21 : g104 call k [1,1,1,1,1,0,1,0,0] a H K = o104 0 call [1,1,1,1,1,0,1,0,0] 0 a H (K .normal) := at_region (by kernel_rfl)
theorem n104_22 : g104 call k [1,1,1,1,1,0,1,0,1] a H K = K .ret a H := at_ret (by kernel_rfl)
theorem n104_23 : g104 call k [1,1,1,1,1,0,1,1] a H K = K .normal a H := at_skip (by kernel_rfl)
theorem n104_24 : g104 call k [1,1,1,1,1,1] a H K = g104 call k [1,1,1,1,1,1,0] a H (hSeq (g104 call k [1,1,1,1,1,1,1]) K) := at_seq (by kernel_rfl)
theorem n104_25 : g104 call k [1,1,1,1,1,1,0] a H K = g104 call k [1,1,1,1,1,1,0,0] a H (hSeq (g104 call k [1,1,1,1,1,1,0,1]) K) := at_seq (by kernel_rfl)
theorem n104_26 : g104 call k [1,1,1,1,1,1,0,0] a H K = o104 0 call [1,1,1,1,1,1,0,0] 0 a H (K .normal) := at_region (by kernel_rfl)
theorem n104_27 : g104 call k [1,1,1,1,1,1,0,1] a H K = onBool (asB (GA.eval a (.tmp 31))) (g104 call k [1,1,1,1,1,1,0,1,0] a H K) (g104 call k [1,1,1,1,1,1,0,1,1] a H K) := at_cond (by kernel_rfl)
theorem n104_28 : g104 call k [1,1,1,1,1,1,0,1,0] a H K = g104 call k [1,1,1,1,1,1,0,1,0,0] a H (hSeq (g104 call k [1,1,1,1,1,1,0,1,0,1]) K) := at_seq (by kernel_rfl)
theorem n104_29 : g104 call k [1,1,1,1,1,1,0,1,1] a H K = K .normal a H := at_skip (by kernel_rfl)
theorem n104_30 : g104 call k [1,1,1,1,1,1,1] a H K = g104 call k [1,1,1,1,1,1,1,0] a H (hSeq (g104 call k [1,1,1,1,1,1,1,1]) K) := at_seq (by kernel_rfl)
theorem n104_31 : g104 call k [1,1,1,1,1,1,0,1,0,0] a H K = o104 0 call [1,1,1,1,1,1,0,1,0,0] 0 a H (K .normal) := at_region (by kernel_rfl)
theorem n104_32 : g104 call k [1,1,1,1,1,1,0,1,0,1] a H K = g104 call k [1,1,1,1,1,1,0,1,0,1,0] a H (hSeq (g104 call k [1,1,1,1,1,1,0,1,0,1,1]) K) := at_seq (by kernel_rfl)
theorem n104_33 : g104 call k [1,1,1,1,1,1,0,1,0,1,0] a H K = o104 0 call [1,1,1,1,1,1,0,1,0,1,0] 0 a H (K .normal) := at_region (by kernel_rfl)
theorem n104_34 : g104 call k [1,1,1,1,1,1,0,1,0,1,1] a H K = g104 call k [1,1,1,1,1,1,0,1,0,1,1,0] a H (hSeq (g104 call k [1,1,1,1,1,1,0,1,0,1,1,1]) K) := at_seq (by kernel_rfl)
theorem n104_35 : g104 call k [1,1,1,1,1,1,1,0] a H K = o104 0 call [1,1,1,1,1,1,1,0] 0 a H (K .normal) := at_region (by kernel_rfl)
theorem n104_36 : g104 call k [1,1,1,1,1,1,1,1] a H K = g104 call k [1,1,1,1,1,1,1,1,0] a H (hSeq (g104 call k [1,1,1,1,1,1,1,1,1]) K) := at_seq (by kernel_rfl)
theorem n104_37 : g104 call k [1,1,1,1,1,1,1,1,0] a H K = g104 call k [1,1,1,1,1,1,1,1,0,0] a H (hSeq (g104 call k [1,1,1,1,1,1,1,1,0,1]) K) := at_seq (by kernel_rfl)
theorem n104_38 : g104 call k [1,1,1,1,1,1,1,1,0,0] a H K = o104 0 call [1,1,1,1,1,1,1,1,0,0] 0 a H (K .normal) := at_region (by kernel_rfl)
theorem n104_39 : g104 call k [1,1,1,1,1,1,1,1,0,1] a H K = onBool (asB (GA.eval a (.tmp 68))) (g104 call k [1,1,1,1,1,1,1,1,0,1,0] a H K) (g104 call k [1,1,1,1,1,1,1,1,0,1,1] a H K) := at_cond (by kernel_rfl)
theorem n104_40 : g104 call k [1,1,1,1,1,1,1,1,0,1,0] a H K = g104 call k [1,1,1,1,1,1,1,1,0,1,0,0] a H (hSeq (g104 call k [1,1,1,1,1,1,1,1,0,1,0,1]) K) := at_seq (by kernel_rfl)
theorem n104_41 : g104 call k [1,1,1,1,1,1,1,1,0,1,1] a H K = K .normal a H := at_skip (by kernel_rfl)
theorem n104_42 : g104 call k [1,1,1,1,1,1,1,1,1] a H K = g104 call k [1,1,1,1,1,1,1,1,1,0] a H (hSeq (g104 call k [1,1,1,1,1,1,1,1,1,1]) K) := at_seq (by kernel_rfl)
theorem n104_43 : g104 call k [1,1,1,1,1,1,1,1,1,0] a H K = o104 0 call [1,1,1,1,1,1,1,1,1,0] 0 a H (K .normal) := at_region (by kernel_rfl)
theorem n104_44 : g104 call k [1,1,1,1,1,1,1,1,1,1] a H K = g104 call k [1,1,1,1,1,1,1,1,1,1,0] a H (hSeq (g104 call k [1,1,1,1,1,1,1,1,1,1,1]) K) := at_seq (by kernel_rfl)
theorem n104_45 : g104 call k [1,1,1,1,1,1,0,1,0,1,1,0] a H K = o104 1 call [1,1,1,1,1,1,0,1,0,1,1,0] 0 a H (K .normal) := at_region (by kernel_rfl)
theorem n104_46 : g104 call k [1,1,1,1,1,1,0,1,0,1,1,1] a H K = g104 call k [1,1,1,1,1,1,0,1,0,1,1,1,0] a H (hSeq (g104 call k [1,1,1,1,1,1,0,1,0,1,1,1,1]) K) := at_seq (by kernel_rfl)
theorem n104_47 : g104 call k [1,1,1,1,1,1,0,1,0,1,1,1,0] a H K = o104 0 call [1,1,1,1,1,1,0,1,0,1,1,1,0] 0 a H (K .normal) := at_region (by kernel_rfl)
theorem n104_48 : g104 call k [1,1,1,1,1,1,0,1,0,1,1,1,1] a H K = K .ret a H := at_ret (by kernel_rfl)
theorem n104_49 : g104 call k [1,1,1,1,1,1,1,1,0,1,0,0] a H K = o104 1 call [1,1,1,1,1,1,1,1,0,1,0,0] 0 a H (K .normal) := at_region (by kernel_rfl)
theorem n104_50 : g104 call k [1,1,1,1,1,1,1,1,0,1,0,1] a H K = g104 call k [1,1,1,1,1,1,1,1,0,1,0,1,0] a H (hSeq (g104 call k [1,1,1,1,1,1,1,1,0,1,0,1,1]) K) := at_seq (by kernel_rfl)
theorem n104_51 : g104 call k [1,1,1,1,1,1,1,1,0,1,0,1,0] a H K = o104 0 call [1,1,1,1,1,1,1,1,0,1,0,1,0] 0 a H (K .normal) := at_region (by kernel_rfl)
theorem n104_52 : g104 call k [1,1,1,1,1,1,1,1,0,1,0,1,1] a H K = g104 call k [1,1,1,1,1,1,1,1,0,1,0,1,1,0] a H (hSeq (g104 call k [1,1,1,1,1,1,1,1,0,1,0,1,1,1]) K) := at_seq (by kernel_rfl)
theorem n104_53 : g104 call k [1,1,1,1,1,1,1,1,0,1,0,1,1,0] a H K = o104 0 call [1,1,1,1,1,1,1,1,0,1,0,1,1,0] 0 a H (K .normal) := at_region (by kernel_rfl)
theorem n104_54 : g104 call k [1,1,1,1,1,1,1,1,0,1,0,1,1,1] a H K = K .ret a H := at_ret (by kernel_rfl)
theorem n104_55 : g104 call k [1,1,1,1,1,1,1,1,1,1,0] a H K = o104 0 call [1,1,1,1,1,1,1,1,1,1,0] 0 a H (K .normal) := at_region (by kernel_rfl)
theorem n104_56 : g104 call k [1,1,1,1,1,1,1,1,1,1,1] a H K = g104 call k [1,1,1,1,1,1,1,1,1,1,1,0] a H (hSeq (g104 call k [1,1,1,1,1,1,1,1,1,1,1,1]) K) := at_seq (by kernel_rfl)
theorem n104_57 : g104 call k [1,1,1,1,1,1,1,1,1,1,1,0] a H K = o104 0 call [1,1,1,1,1,1,1,1,1,1,1,0] 0 a H (K .normal) := at_region (by kernel_rfl)
theorem n104_58 : g104 call k [1,1,1,1,1,1,1,1,1,1,1,1] a H K = K .ret a H := at_ret (by kernel_rfl)
theorem s104_0 : o104 0 call [0] 0 (FG 95 (fun _ => undef) [(2, p2), (1, p1), (0, p0)]) H K' =
  K' (FG 95 (fun _ => undef) [(6, (.slice none 0 0)), (2, p2), (1, p1), (0, p0)]) H := by kernel_rfl
theorem s104_1 : o104 0 call [1,0] 0 (FG 95 (fun _ => undef) [(6, (.slice none 0 0)), (2, p2), (1, p1), (0, p0)]) H K' =
  onV (oSlice Try.prog 86 p0 (some p1) none none) fun v1 =>
  K' (FG 95 (fun _ => undef) [(12, v1), (11, p1), (10, p0), (6, (.slice none 0 0)), (2, p2), (1, p1), (0, p0)]) H := by kernel_rfl
theorem s104_2 : o104 0 call [1,1,0] 0 (FG 95 (fun _ => undef) [(12, v1), (11, p1), (10, p0), (6, (.slice none 0 0)), (2, p2), (1, p1), (0, p0)]) H K' =
  onV (oLen Try.prog 86 p2) fun v2 =>
  K' (FG 95 (fun _ => undef) [(7, v2), (14, v2), (13, p2), (12, v1), (11, p1), (10, p0), (6, (.slice none 0 0)), (2, p2), (1, p1), (0, p0)]) H := by kernel_rfl
theorem s104_3 : o104 0 call [1,1,1,0,0] 0 (FG 95 (fun _ => undef) [(7, v2), (14, v2), (13, p2), (12, v1), (11, p1), (10, p0), (6, (.slice none 0 0)), (2, p2), (1, p1), (0, p0)]) H K' =
  onV ((oBin Try.prog .eql 3 v2 (.int .i64 0)).filter closed) fun v3 =>
  K' (FG 95 (fun _ => undef) [(16, v3), (15, v2), (7, v2), (14, v2), (13, p2), (12, v1), (11, p1), (10, p0), (6, (.slice none 0 0)), (2, p2), (1, p1), (0, p0)]) H := by kernel_rfl
theorem s104_4 : o104 0 call [1,1,1,0,1,0,0] 0 (FG 95 (fun _ => undef) [(16, v3), (15, v2), (7, v2), (14, v2), (13, p2), (12, v1), (11, p1), (10, p0), (6, (.slice none 0 0)), (2, p2), (1, p1), (0, p0)]) H K' =
  K' (FG 95 (fun _ => undef) [(6, p0), (17, p0), (16, v3), (15, v2), (7, v2), (14, v2), (13, p2), (12, v1), (11, p1), (10, p0), (6, (.slice none 0 0)), (2, p2), (1, p1), (0, p0)]) H := by kernel_rfl
theorem s104_5 : o104 0 call [1,1,1,1,0] 0 (FG 95 (fun _ => undef) [(16, v3), (15, v2), (7, v2), (14, v2), (13, p2), (12, v1), (11, p1), (10, p0), (6, (.slice none 0 0)), (2, p2), (1, p1), (0, p0)]) H K' =
  onV (oLen Try.prog 86 p0) fun v4 =>
  K' (FG 95 (fun _ => undef) [(8, v4), (19, v4), (18, p0), (16, v3), (15, v2), (7, v2), (14, v2), (13, p2), (12, v1), (11, p1), (10, p0), (6, (.slice none 0 0)), (2, p2), (1, p1), (0, p0)]) H := by kernel_rfl
theorem s104_6 : o104 0 call [1,1,1,1,1,0,0] 0 (FG 95 (fun _ => undef) [(8, v4), (19, v4), (18, p0), (16, v3), (15, v2), (7, v2), (14, v2), (13, p2), (12, v1), (11, p1), (10, p0), (6, (.slice none 0 0)), (2, p2), (1, p1), (0, p0)]) H K' =
  onV ((oBin Try.prog .eql 3 p1 v4).filter closed) fun v5 =>
  K' (FG 95 (fun _ => undef) [(22, v5), (21, v4), (20, p1), (8, v4), (19, v4), (18, p0), (16, v3), (15, v2), (7, v2), (14, v2), (13, p2), (12, v1), (11, p1), (10, p0), (6, (.slice none 0 0)), (2, p2), (1, p1), (0, p0)]) H := by kernel_rfl
theorem s104_7 : o104 0 call [1,1,1,1,1,0,1,0,0] 0 (FG 95 (fun _ => undef) [(22, v5), (21, v4), (20, p1), (8, v4), (19, v4), (18, p0), (16, v3), (15, v2), (7, v2), (14, v2), (13, p2), (12, v1), (11, p1), (10, p0), (6, (.slice none 0 0)), (2, p2), (1, p1), (0, p0)]) H K' =
  onVH (gAppend Try.prog 86 86 p0 p2 H) fun v6 H7 =>
  K' (FG 95 (fun _ => undef) [(6, v6), (25, v6), (24, p2), (23, p0), (22, v5), (21, v4), (20, p1), (8, v4), (19, v4), (18, p0), (16, v3), (15, v2), (7, v2), (14, v2), (13, p2), (12, v1), (11, p1), (10, p0), (6, (.slice none 0 0)), (2, p2), (1, p1), (0, p0)]) H7 := by kernel_rfl
theorem s104_8 : o104 0 call [1,1,1,1,1,1,0,0] 0 (FG 95 (fun _ => undef) [(22, v5), (21, v4), (20, p1), (8, v4), (19, v4), (18, p0), (16, v3), (15, v2), (7, v2), (14, v2), (13, p2), (12, v1), (11, p1), (10, p0), (6, (.slice none 0 0)), (2, p2), (1, p1), (0, p0)]) H K' =
  onV ((oBin Try.prog .add 3 v4 v2).filter closed) fun v8 =>
  onV (oCap Try.prog 86 p0) fun v9 =>
  onV ((oBin Try.prog .gtr 3 v8 v9).filter closed) fun v10 =>
  K' (FG 95 (fun _ => undef) [(31, v10), (30, v9), (29, p0), (28, v8), (27, v2), (26, v4), (22, v5), (21, v4), (20, p1), (8, v4), (19, v4), (18, p0), (16, v3), (15, v2), (7, v2), (14, v2), (13, p2), (12, v1), (11, p1), (10, p0), (6, (.slice none 0 0)), (2, p2), (1, p1), (0, p0)]) H := by kernel_rfl
theorem s104_9 : o104 0 call [1,1,1,1,1,1,0,1,0,0] 0 (FF 95 d) H K' =
  onV (oSlice Try.prog 86 (d 0) none (some (d 1)) none) fun v1 =>
  onV ((oBin Try.prog .add 3 (d 8) (d 7)).filter closed) fun v2 =>
  onV ((oBin Try.prog .sub 3 v2 (d 1)).filter closed) fun v3 =>
  onVH (gAppend Try.prog 86 3 v1 v3 H) fun v4 H5 =>
  K' (FG 95 d [(9, v4), (40, v4), (39, v3), (38, (d 1)), (37, v2), (36, (d 7)), (35, (d 8)), (34, v1), (33, (d 1)), (32, (d 0))]) H5 := by kernel_rfl
theorem s104_10 : o104 0 call [1,1,1,1,1,1,0,1,0,1,0] 0 (FG 95 d [(9, v4), (40, v4), (39, v3), (38, (d 1)), (37, v2), (36, (d 7)), (35, (d 8)), (34, v1), (33, (d 1)), (32, (d 0))]) H5 K' =
  onV (oSlice Try.prog 86 v4 (some (d 1)) none none) fun v6 =>
  onVH (gCopy Try.prog 86 v6 (d 2) H5) fun v7 H8 =>
  K' (FG 95 d [(45, v7), (44, (d 2)), (43, v6), (42, (d 1)), (41, v4), (9, v4), (40, v4), (39, v3), (38, (d 1)), (37, v2), (36, (d 7)), (35, (d 8)), (34, v1), (33, (d 1)), (32, (d 0))]) H8 := by kernel_rfl
theorem s104_11 : o104 0 call [1,1,1,1,1,1,1,0] 0 (FF 95 d) H K' =
  onV ((oBin Try.prog .add 3 (d 8) (d 7)).filter closed) fun v1 =>
  onV (oSlice Try.prog 86 (d 0) none (some v1) none) fun v2 =>
  K' (FG 95 d [(0, v2), (60, v2), (59, v1), (58, (d 7)), (57, (d 8)), (56, (d 0))]) H := by kernel_rfl
theorem s104_12 : o104 0 call [1,1,1,1,1,1,1,1,0,0] 0 (FG 95 d [(0, v2), (60, v2), (59, v1), (58, (d 7)), (57, (d 8)), (56, (d 0))]) H K' =
  onV ((oBin Try.prog .add 3 (d 1) (d 7)).filter closed) fun v3 =>
  onV (oSlice Try.prog 86 v2 (some v3) none none) fun v4 =>
  onCall 0 call (.func (.func 160) #[] #[]) [(d 2), v4] H fun v5 H6 =>
  onV ((oUn Try.prog .not v5).filter closed) fun v7 =>
  K' (FG 95 d [(68, v7), (67, v5), (66, v4), (65, v3), (64, (d 7)), (63, (d 1)), (62, v2), (61, (d 2)), (0, v2), (60, v2), (59, v1), (58, (d 7)), (57, (d 8)), (56, (d 0))]) H6 := by kernel_rfl
theorem s104_13 : o104 0 call [1,1,1,1,1,1,1,1,1,0] 0 (FG 95 d [(68, v7), (67, v5), (66, v4), (65, v3), (64, (d 7)), (63, (d 1)), (62, v2), (61, (d 2)), (0, v2), (60, v2), (59, v1), (58, (d 7)), (57, (d 8)), (56, (d 0))]) H6 K' =
  onV (oSlice Try.prog 86 v2 (some (d 8)) none none) fun v8 =>
  onVH (gCopy Try.prog 86 v8 (d 2) H6) fun v9 H10 =>
  K' (FG 95 d [(88, v9), (87, (d 2)), (86, v8), (85, (d 8)), (84, v2), (68, v7), (67, v5), (66, v4), (65, v3), (64, (d 7)), (63, (d 1)), (62, v2), (61, (d 2)), (0, v2), (60, v2), (59, v1), (58, (d 7)), (57, (d 8)), (56, (d 0))]) H10 := by kernel_rfl
theorem s104_14 : o104 1 call [1,1,1,1,1,1,0,1,0,1,1,0] 0 (FF 95 d) H K' =
  onV ((oBin Try.prog .add 3 (d 1) (d 7)).filter closed) fun v1 =>
  onV (oSlice Try.prog 86 (d 9) (some v1) none none) fun v2 =>
  onV (oSlice Try.prog 86 (d 0) (some (d 1)) none none) fun v3 =>
  onVH (gCopy Try.prog 86 v2 v3 H) fun v4 H5 =>
  K' (FG 95 d [(54, v4), (53, v3), (52, (d 1)), (51, (d 0)), (50, v2), (49, v1), (48, (d 7)), (47, (d 1)), (46, (d 9))]) H5 := by kernel_rfl
theorem s104_15 : o104 0 call [1,1,1,1,1,1,0,1,0,1,1,1,0] 0 (FG 95 d [(54, v4), (53, v3), (52, (d 1)), (51, (d 0)), (50, v2), (49, v1), (48, (d 7)), (47, (d 1)), (46, (d 9))]) H5 K' =
  K' (FG 95 d [(6, (d 9)), (55, (d 9)), (54, v4), (53, v3), (52, (d 1)), (51, (d 0)), (50, v2), (49, v1), (48, (d 7)), (47, (d 1)), (46, (d 9))]) H5 := by kernel_rfl
theorem s104_16 : o104 1 call [1,1,1,1,1,1,1,1,0,1,0,0] 0 (FF 95 d) H K' =
  onV ((oBin Try.prog .add 3 (d 1) (d 7)).filter closed) fun v1 =>
  onV (oSlice Try.prog 86 (d 0) (some v1) none none) fun v2 =>
  onV (oSlice Try.prog 86 (d 0) (some (d 1)) none none) fun v3 =>
  onVH (gCopy Try.prog 86 v2 v3 H) fun v4 H5 =>
  K' (FG 95 d [(77, v4), (76, v3), (75, (d 1)), (74, (d 0)), (73, v2), (72, v1), (71, (d 7)), (70, (d 1)), (69, (d 0))]) H5 := by kernel_rfl
theorem s104_17 : o104 0 call [1,1,1,1,1,1,1,1,0,1,0,1,0] 0 (FG 95 d [(77, v4), (76, v3), (75, (d 1)), (74, (d 0)), (73, v2), (72, v1), (71, (d 7)), (70, (d 1)), (69, (d 0))]) H5 K' =
  onV (oSlice Try.prog 86 (d 0) (some (d 1)) none none) fun v6 =>
  onVH (gCopy Try.prog 86 v6 (d 2) H5) fun v7 H8 =>
  K' (FG 95 d [(82, v7), (81, (d 2)), (80, v6), (79, (d 1)), (78, (d 0)), (77, v4), (76, v3), (75, (d 1)), (74, (d 0)), (73, v2), (72, v1), (71, (d 7)), (70, (d 1)), (69, (d 0))]) H8 := by kernel_rfl
theorem s104_18 : o104 0 call [1,1,1,1,1,1,1,1,0,1,0,1,1,0] 0 (FG 95 d [(82, v7), (81, (d 2)), (80, v6), (79, (d 1)), (78, (d 0)), (77, v4), (76, v3), (75, (d 1)), (74, (d 0)), (73, v2), (72, v1), (71, (d 7)), (70, (d 1)), (69, (d 0))]) H8 K' =
  K' (FG 95 d [(6, (d 0)), (83, (d 0)), (82, v7), (81, (d 2)), (80, v6), (79, (d 1)), (78, (d 0)), (77, v4), (76, v3), (75, (d 1)), (74, (d 0)), (73, v2), (72, v1), (71, (d 7)), (70, (d 1)), (69, (d 0))]) H8 := by kernel_rfl
theorem s104_19 : o104 0 call [1,1,1,1,1,1,1,1,1,1,0] 0 (FF 95 d) H K' =
  onV (oSlice Try.prog 86 (d 0) (some (d 1)) none none) fun v1 =>
  onCall 0 call (.func (.func 161) #[] #[]) [v1, (d 7)] H fun v2 H3 =>
  K' (FG 95 d [(93, v2), (92, (d 7)), (91, v1), (90, (d 1)), (89, (d 0))]) H3 := by kernel_rfl
theorem s104_20 : o104 0 call [1,1,1,1,1,1,1,1,1,1,1,0] 0 (FG 95 d [(93, v2), (92, (d 7)), (91, v1), (90, (d 1)), (89, (d 0))]) H3 K' =
  K' (FG 95 d [(6, (d 0)), (94, (d 0)), (93, v2), (92, (d 7)), (91, v1), (90, (d 1)), (89, (d 0))]) H3 := by kernel_rfl
noncomputable def f104_r11 (call : Handle) (k : Nat) (x0 x1 x7 x9 : Value) (H : GH) : M (Value × GH) :=
  onV ((oBin Try.prog .add 3 x1 x7).filter closed) fun v1 =>
  onV (oSlice Try.prog 86 x9 (some v1) none none) fun v2 =>
  onV (oSlice Try.prog 86 x0 (some x1) none none) fun v3 =>
  onVH (gCopy Try.prog 86 v2 v3 H) fun v4 H5 =>
  some [(x9, H5)]
theorem f104_r11_eq (call : Handle) (k : Nat) : g104 call k [1,1,1,1,1,1,0,1,0,1,1,0] (FF 95 d) H (hSeq (g104 call k [1,1,1,1,1,1,0,1,0,1,1,1]) (hSeq (g104 call k [1,1,1,1,1,1,1]) (hFin Try.prog Try.f104))) = f104_r11 call k (d 0) (d 1) (d 7) (d 9) H := by
  unfold f104_r11
  rw [n104_45]
  rw [s104_14]
  refine onV_c fun v1 => ?_
  refine onV_c fun v2 => ?_
  refine onV_c fun v3 => ?_
  refine onVH_c fun v4 H5 => ?_
  rw [hSeq_n]
  rw [n104_46]
  rw [n104_47]
  rw [s104_15]
  rw [hSeq_n]
  rw [n104_48]
  rw [hSeq_r]
  kernel_rfl
noncomputable def f104_r9 (call : Handle) (k : Nat) (x0 x1 x2 x7 x8 : Value) (H : GH) : M (Value × GH) :=
  onV (oSlice Try.prog 86 x0 none (some x1) none) fun v1 =>
  onV ((oBin Try.prog .add 3 x8 x7).filter closed) fun v2 =>
  onV ((oBin Try.prog .sub 3 v2 x1).filter closed) fun v3 =>
  onVH (gAppend Try.prog 86 3 v1 v3 H) fun v4 H5 =>
  onV (oSlice Try.prog 86 v4 (some x1) none none) fun v6 =>
  onVH (gCopy Try.prog 86 v6 x2 H5) fun v7 H8 =>
  (f104_r11 call k x0 x1 x7 v4 H8)
theorem f104_r9_eq (call : Handle) (k : Nat) : g104 call k [1,1,1,1,1,1,0,1,0,0] (FF 95 d) H (hSeq (g104 call k [1,1,1,1,1,1,0,1,0,1]) (hSeq (g104 call k [1,1,1,1,1,1,1]) (hFin Try.prog Try.f104))) = f104_r9 call k (d 0) (d 1) (d 2) (d 7) (d 8) H := by
  unfold f104_r9
  rw [n104_31]
  rw [s104_9]
  refine onV_c fun v1 => ?_
  refine onV_c fun v2 => ?_
  refine onV_c fun v3 => ?_
  refine onVH_c fun v4 H5 => ?_
  rw [hSeq_n]
  rw [n104_32]
  rw [n104_33]
  rw [s104_10]
  refine onV_c fun v6 => ?_
  refine onVH_c fun v7 H8 => ?_
  rw [hSeq_n]
  rw [n104_34]
  generalize e : (FG 95 d [(45, v7), (44, (d 2)), (43, v6), (42, (d 1)), (41, v4), (9, v4), (40, v4), (39, v3), (38, (d 1)), (37, v2), (36, (d 7)), (35, (d 8)), (34, v1), (33, (d 1)), (32, (d 0))]) = a
  rw [show a = (FF 95 (gf a)) from (FF_gf (by subst e; exact FG_len)).symm]
  exact (f104_r11_eq (d := gf a) call k).trans (by subst e; kernel_rfl)
noncomputable def f104_r15 (call : Handle) (k : Nat) (x0 x1 x2 x7 : Value) (H : GH) : M (Value × GH) :=
  onV ((oBin Try.prog .add 3 x1 x7).filter closed) fun v1 =>
  onV (oSlice Try.prog 86 x0 (some v1) none none) fun v2 =>
  onV (oSlice Try.prog 86 x0 (some x1) none none) fun v3 =>
  onVH (gCopy Try.prog 86 v2 v3 H) fun v4 H5 =>
  onV (oSlice Try.prog 86 x0 (some x1) none none) fun v6 =>
  onVH (gCopy Try.prog 86 v6 x2 H5) fun v7 H8 =>
  some [(x0, H8)]
theorem f104_r15_eq (call : Handle) (k : Nat) : g104 call k [1,1,1,1,1,1,1,1,0,1,0,0] (FF 95 d) H (hSeq (g104 call k [1,1,1,1,1,1,1,1,0,1,0,1]) (hSeq (g104 call k [1,1,1,1,1,1,1,1,1]) (hFin Try.prog Try.f104))) = f104_r15 call k (d 0) (d 1) (d 2) (d 7) H := by
  unfold f104_r15
  rw [n104_49]
  rw [s104_16]
  refine onV_c fun v1 => ?_
  refine onV_c fun v2 => ?_
  refine onV_c fun v3 => ?_
  refine onVH_c fun v4 H5 => ?_
  rw [hSeq_n]
  rw [n104_50]
  rw [n104_51]
  rw [s104_17]
  refine onV_c fun v6 => ?_
  refine onVH_c fun v7 H8 => ?_
  rw [hSeq_n]
  rw [n104_52]
  rw [n104_53]
  rw [s104_18]
  rw [hSeq_n]
  rw [n104_54]
  rw [hSeq_r]
  kernel_rfl
noncomputable def f104_r19 (call : Handle) (k : Nat) (x0 x1 x7 : Value) (H : GH) : M (Value × GH) :=
  onV (oSlice Try.prog 86 x0 (some x1) none none) fun v1 =>
  onCall 0 call (.func (.func 161) #[] #[]) [v1, x7] H fun v2 H3 =>
  some [(x0, H3)]
theorem f104_r19_eq (call : Handle) (k : Nat) : g104 call k [1,1,1,1,1,1,1,1,1,1,0] (FF 95 d) H (hSeq (g104 call k [1,1,1,1,1,1,1,1,1,1,1]) (hFin Try.prog Try.f104)) = f104_r19 call k (d 0) (d 1) (d 7) H := by
  unfold f104_r19
  rw [n104_55]
  rw [s104_19]
  refine onV_c fun v1 => ?_
  refine onCall_c fun v2 H3 => ?_
  rw [hSeq_n]
  rw [n104_56]
  rw [n104_57]
  rw [s104_20]
  rw [hSeq_n]
  rw [n104_58]
  kernel_rfl
noncomputable def f104_r13 (call : Handle) (k : Nat) (x0 x1 x2 x7 x8 : Value) (H : GH) : M (Value × GH) :=
  onV ((oBin Try.prog .add 3 x8 x7).filter closed) fun v1 =>
  onV (oSlice Try.prog 86 x0 none (some v1) none) fun v2 =>
  onV ((oBin Try.prog .add 3 x1 x7).filter closed) fun v3 =>
  onV (oSlice Try.prog 86 v2 (some v3) none none) fun v4 =>
  onCall 0 call (.func (.func 160) #[] #[]) [x2, v4] H fun v5 H6 =>
  onV ((oUn Try.prog .not v5).filter closed) fun v7 =>
  onBool (asB v7)
  ((f104_r15 call k v2 x1 x2 x7 H6))
  (onV (oSlice Try.prog 86 v2 (some x8) none none) fun v8 =>
  onVH (gCopy Try.prog 86 v8 x2 H6) fun v9 H10 =>
  (f104_r19 call k v2 x1 x7 H10))
theorem f104_r13_eq (call : Handle) (k : Nat) : g104 call k [1,1,1,1,1,1,1,0] (FF 95 d) H (hSeq (g104 call k [1,1,1,1,1,1,1,1]) (hFin Try.prog Try.f104)) = f104_r13 call k (d 0) (d 1) (d 2) (d 7) (d 8) H := by
  unfold f104_r13
  rw [n104_35]
  rw [s104_11]
  refine onV_c fun v1 => ?_
  refine onV_c fun v2 => ?_
  rw [hSeq_n]
  rw [n104_36]
  rw [n104_37]
  rw [n104_38]
  rw [s104_12]
  refine onV_c fun v3 => ?_
  refine onV_c fun v4 => ?_
  refine onCall_c fun v5 H6 => ?_
  refine onV_c fun v7 => ?_
  rw [hSeq_n]
  rw [n104_39]
  refine onBool_cc (by kernel_rfl) ?_ ?_
  · rw [n104_40]
    generalize e : (FG 95 d [(68, v7), (67, v5), (66, v4), (65, v3), (64, (d 7)), (63, (d 1)), (62, v2), (61, (d 2)), (0, v2), (60, v2), (59, v1), (58, (d 7)), (57, (d 8)), (56, (d 0))]) = a
    rw [show a = (FF 95 (gf a)) from (FF_gf (by subst e; exact FG_len)).symm]
    exact (f104_r15_eq (d := gf a) call k).trans (by subst e; kernel_rfl)
  · rw [n104_41]
    rw [hSeq_n]
    rw [n104_42]
    rw [n104_43]
    rw [s104_13]
    refine onV_c fun v8 => ?_
    refine onVH_c fun v9 H10 => ?_
    rw [hSeq_n]
    rw [n104_44]
    generalize e : (FG 95 d [(88, v9), (87, (d 2)), (86, v8), (85, (d 8)), (84, v2), (68, v7), (67, v5), (66, v4), (65, v3), (64, (d 7)), (63, (d 1)), (62, v2), (61, (d 2)), (0, v2), (60, v2), (59, v1), (58, (d 7)), (57, (d 8)), (56, (d 0))]) = a
    rw [show a = (FF 95 (gf a)) from (FF_gf (by subst e; exact FG_len)).symm]
    exact (f104_r19_eq (d := gf a) call k).trans (by subst e; kernel_rfl)
noncomputable def f104_sh (call : Handle) (k : Nat) (p0 p1 p2 : Value) (H : GH) : M (Value × GH) :=
  onV (oSlice Try.prog 86 p0 (some p1) none none) fun v1 =>
  onV (oLen Try.prog 86 p2) fun v2 =>
  onV ((oBin Try.prog .eql 3 v2 (.int .i64 0)).filter closed) fun v3 =>
  onBool (asB v3)
  (some [(p0, H)])
  (onV (oLen Try.prog 86 p0) fun v4 =>
  onV ((oBin Try.prog .eql 3 p1 v4).filter closed) fun v5 =>
  onBool (asB v5)
  (onVH (gAppend Try.prog 86 86 p0 p2 H) fun v6 H7 =>
  some [(v6, H7)])
  (onV ((oBin Try.prog .add 3 v4 v2).filter closed) fun v8 =>
  onV (oCap Try.prog 86 p0) fun v9 =>
  onV ((oBin Try.prog .gtr 3 v8 v9).filter closed) fun v10 =>
  onBool (asB v10)
  ((f104_r9 call k p0 p1 p2 v2 v4 H))
  ((f104_r13 call k p0 p1 p2 v2 v4 H))))
theorem f104_run (call : Handle) (k : Nat) (p0 p1 p2 : Value) (H : GH) : g104 call k [] (FG 95 (fun _ => undef) [(2, p2), (1, p1), (0, p0)]) H (hFin Try.prog Try.f104) = f104_sh call k p0 p1 p2 H := by
  unfold f104_sh
  rw [n104_0]
  rw [n104_1]
  rw [s104_0]
  rw [hSeq_n]
  rw [n104_2]
  rw [n104_3]
  rw [s104_1]
  refine onV_c fun v1 => ?_
  rw [hSeq_n]
  rw [n104_4]
  rw [n104_5]
  rw [s104_2]
  refine onV_c fun v2 => ?_
  rw [hSeq_n]
  rw [n104_6]
  rw [n104_7]
  rw [n104_8]
  rw [s104_3]
  refine onV_c fun v3 => ?_
  rw [hSeq_n]
  rw [n104_9]
  refine onBool_cc (by kernel_rfl) ?_ ?_
  · rw [n104_10]
    rw [n104_11]
    rw [s104_4]
    rw [hSeq_n]
    rw [n104_12]
    rw [hSeq_r]
    kernel_rfl
  · rw [n104_13]
    rw [hSeq_n]
    rw [n104_14]
    rw [n104_15]
    rw [s104_5]
    refine onV_c fun v4 => ?_
    rw [hSeq_n]
    rw [n104_16]
    rw [n104_17]
    rw [n104_18]
    rw [s104_6]
    refine onV_c fun v5 => ?_
    rw [hSeq_n]
    rw [n104_19]
    refine onBool_cc (by kernel_rfl) ?_ ?_
    · rw [n104_20]
      rw [n104_21]
      rw [s104_7]
      refine onVH_c fun v6 H7 => ?_
      rw [hSeq_n]
      rw [n104_22]
      rw [hSeq_r]
      kernel_rfl
    · rw [n104_23]
      rw [hSeq_n]
      rw [n104_24]
      rw [n104_25]
      rw [n104_26]
      rw [s104_8]
      refine onV_c fun v8 => ?_
      refine onV_c fun v9 => ?_
      refine onV_c fun v10 => ?_
      rw [hSeq_n]
      rw [n104_27]
      refine onBool_cc (by kernel_rfl) ?_ ?_
      · rw [n104_28]
        generalize e : (FG 95 (fun _ => undef) [(31, v10), (30, v9), (29, p0), (28, v8), (27, v2), (26, v4), (22, v5), (21, v4), (20, p1), (8, v4), (19, v4), (18, p0), (16, v3), (15, v2), (7, v2), (14, v2), (13, p2), (12, v1), (11, p1), (10, p0), (6, (.slice none 0 0)), (2, p2), (1, p1), (0, p0)]) = a
        rw [show a = (FF 95 (gf a)) from (FF_gf (by subst e; exact FG_len)).symm]
        exact (f104_r9_eq (d := gf a) call k).trans (by subst e; kernel_rfl)
      · rw [n104_29]
        rw [hSeq_n]
        rw [n104_30]
        generalize e : (FG 95 (fun _ => undef) [(31, v10), (30, v9), (29, p0), (28, v8), (27, v2), (26, v4), (22, v5), (21, v4), (20, p1), (8, v4), (19, v4), (18, p0), (16, v3), (15, v2), (7, v2), (14, v2), (13, p2), (12, v1), (11, p1), (10, p0), (6, (.slice none 0 0)), (2, p2), (1, p1), (0, p0)]) = a
        rw [show a = (FF 95 (gf a)) from (FF_gf (by subst e; exact FG_len)).symm]
        exact (f104_r13_eq (d := gf a) call k).trans (by subst e; kernel_rfl)
theorem f104_eq (call : Handle) (k : Nat) (p0 p1 p2 : Value) (H : GH) : gFunc Try.prog call k Try.f104 [p0, p1, p2] H = f104_sh call k p0 p1 p2 H :=
  Eq.trans (by kernel_rfl) (f104_run call k p0 p1 p2 H)
end
noncomputable def g105 {β : Type} (call : Handle) (k : Nat) (p : List Nat) : GA → GH → Kont β → M β := gCode Try.prog call k (fAt Try.f105 p)
noncomputable def o105 {β : Type} (d : Nat) (call : Handle) (p : List Nat) (i : Nat) : GA → GH → (GA → GH → M β) → M β := gOps Try.prog d call (opsAt (fAt Try.f105 p)) ((opsAt (fAt Try.f105 p)).drop i)
noncomputable def t105 {β : Type} (d : Nat) (call : Handle) (p : List Nat) (i n : Nat) : GA → GH → (GA → GH → M β) → M β := gOps Try.prog d call (opsAt (fAt Try.f105 p)) (((opsAt (fAt Try.f105 p)).drop i).take n)
theorem o105_s {β : Type} {d : Nat} {call : Handle} {p : List Nat} {a : GA} {H : GH} {K : GA → GH → M β} (i n : Nat) : o105 d call p i a H K = t105 d call p i n a H fun a H => o105 d call p (i + n) a H K := gOps_split i n
section
variable {β : Type} {call : Handle} {k : Nat} {a : GA} {K : Kont β} {K' : GA → GH → M β}
variable {d : Nat → Value} {xg : Value}
variable {p0 : Value}
variable {H : GH}
theorem n105_0 : g105 call k [] a H K = g105 call k [0] a H (hSeq (g105 call k [1]) K) := at_seq (by kernel_rfl)
theorem n105_1 : g105 call k [0] a H K = o105 0 call [0] 0 a H (K .normal) := at_region (by kernel_rfl)
theorem n105_2 : g105 call k [1] a H K = g105 call k [1,0] a H (hSeq (g105 call k [1,1]) K) := at_seq (by kernel_rfl)
theorem n105_3 : g105 call k [1,0] a H K = o105 0 call [1,0] 0 a H (K .normal) := at_region (by kernel_rfl)
theorem n105_4 : g105 call k [1,1] a H K = K .ret a H := at_ret (by kernel_rfl)
theorem s105_0 : o105 0 call [0] 0 (FG 6 (fun _ => undef) [(0, p0)]) H K' =
  K' (FG 6 (fun _ => undef) [(2, (.bool false)), (1, (.pointer (some ⟨H.n, 0, none⟩))), (0, p0)]) (GH.push H (.row (Value.cells p0).toList 91 false)) := by kernel_rfl
theorem s105_1 : o105 0 call [1,0] 0 (FG 6 (fun _ => undef) [(2, (.bool false)), (1, (.pointer (some ⟨H.n, 0, none⟩))), (0, p0)]) (GH.push H (.row (Value.cells p0).toList 91 false)) K' =
  onV (gLoad Try.prog 3 (.pointer (some ⟨H.n, 2, none⟩)) (GH.push H (.row (Value.cells p0).toList 91 false))) fun v1 =>
  onV ((oBin Try.prog .gtr 3 v1 (.int .i64 1000000000)).filter closed) fun v2 =>
  K' (FG 6 (fun _ => undef) [(2, v2), (5, v2), (4, v1), (3, (.pointer (some ⟨H.n, 2, none⟩))), (2, (.bool false)), (1, (.pointer (some ⟨H.n, 0, none⟩))), (0, p0)]) (GH.push H (.row (Value.cells p0).toList 91 false)) := by kernel_rfl
noncomputable def f105_sh (call : Handle) (k : Nat) (p0 : Value) (H : GH) : M (Value × GH) :=
  onV (gLoad Try.prog 3 (.pointer (some ⟨H.n, 2, none⟩)) (GH.push H (.row (Value.cells p0).toList 91 false))) fun v1 =>
  onV ((oBin Try.prog .gtr 3 v1 (.int .i64 1000000000)).filter closed) fun v2 =>
  some [(v2, (GH.push H (.row (Value.cells p0).toList 91 false)))]
theorem f105_run (call : Handle) (k : Nat) (p0 : Value) (H : GH) : g105 call k [] (FG 6 (fun _ => undef) [(0, p0)]) H (hFin Try.prog Try.f105) = f105_sh call k p0 H := by
  unfold f105_sh
  rw [n105_0]
  rw [n105_1]
  rw [s105_0]
  rw [hSeq_n]
  rw [n105_2]
  rw [n105_3]
  rw [s105_1]
  refine onV_c fun v1 => ?_
  refine onV_c fun v2 => ?_
  rw [hSeq_n]
  rw [n105_4]
  kernel_rfl
theorem f105_eq (call : Handle) (k : Nat) (p0 : Value) (H : GH) : gFunc Try.prog call k Try.f105 [p0] H = f105_sh call k p0 H :=
  Eq.trans (by kernel_rfl) (f105_run call k p0 H)
end
noncomputable def g106 {β : Type} (call : Handle) (k : Nat) (p : List Nat) : GA → GH → Kont β → M β := gCode Try.prog call k (fAt Try.f106 p)
noncomputable def o106 {β : Type} (d : Nat) (call : Handle) (p : List Nat) (i : Nat) : GA → GH → (GA → GH → M β) → M β := gOps Try.prog d call (opsAt (fAt Try.f106 p)) ((opsAt (fAt Try.f106 p)).drop i)
noncomputable def t106 {β : Type} (d : Nat) (call : Handle) (p : List Nat) (i n : Nat) : GA → GH → (GA → GH → M β) → M β := gOps Try.prog d call (opsAt (fAt Try.f106 p)) (((opsAt (fAt Try.f106 p)).drop i).take n)
theorem o106_s {β : Type} {d : Nat} {call : Handle} {p : List Nat} {a : GA} {H : GH} {K : GA → GH → M β} (i n : Nat) : o106 d call p i a H K = t106 d call p i n a H fun a H => o106 d call p (i + n) a H K := gOps_split i n
section
variable {β : Type} {call : Handle} {k : Nat} {a : GA} {K : Kont β} {K' : GA → GH → M β}
variable {d : Nat → Value} {xg : Value}
variable {p0 p1 : Value}
variable {v1 v2 v3 v4 v6 v7 v9 : Value}
variable {H H2 H3 H5 H8 : GH}
theorem n106_0 : g106 call k [] a H K = g106 call k [0] a H (hSeq (g106 call k [1]) K) := at_seq (by kernel_rfl)
theorem n106_1 : g106 call k [0] a H K = o106 0 call [0] 0 a H (K .normal) := at_region (by kernel_rfl)
theorem n106_2 : g106 call k [1] a H K = g106 call k [1,0] a H (hSeq (g106 call k [1,1]) K) := at_seq (by kernel_rfl)
theorem n106_3 : g106 call k [1,0] a H K = o106 0 call [1,0] 0 a H (K .normal) := at_region (by kernel_rfl)
theorem n106_4 : g106 call k [1,1] a H K = g106 call k [1,1,0] a H (hSeq (g106 call k [1,1,1]) K) := at_seq (by kernel_rfl)
theorem n106_5 : g106 call k [1,1,0] a H K = g106 call k [1,1,0,0] a H (hSeq (g106 call k [1,1,0,1]) K) := at_seq (by kernel_rfl)
theorem n106_6 : g106 call k [1,1,0,0] a H K = o106 0 call [1,1,0,0] 0 a H (K .normal) := at_region (by kernel_rfl)
theorem n106_7 : g106 call k [1,1,0,1] a H K = onBool (asB (GA.eval a (.tmp 12))) (g106 call k [1,1,0,1,0] a H K) (g106 call k [1,1,0,1,1] a H K) := at_cond (by kernel_rfl)
theorem n106_8 : g106 call k [1,1,0,1,0] a H K = g106 call k [1,1,0,1,0,0] a H (hSeq (g106 call k [1,1,0,1,0,1]) K) := at_seq (by kernel_rfl)
theorem n106_9 : g106 call k [1,1,0,1,0,0] a H K = o106 0 call [1,1,0,1,0,0] 0 a H (K .normal) := at_region (by kernel_rfl)
theorem n106_10 : g106 call k [1,1,0,1,0,1] a H K = K .ret a H := at_ret (by kernel_rfl)
theorem n106_11 : g106 call k [1,1,0,1,1] a H K = K .normal a H := at_skip (by kernel_rfl)
theorem n106_12 : g106 call k [1,1,1] a H K = g106 call k [1,1,1,0] a H (hSeq (g106 call k [1,1,1,1]) K) := at_seq (by kernel_rfl)
theorem n106_13 : g106 call k [1,1,1,0] a H K = g106 call k [1,1,1,0,0] a H (hSeq (g106 call k [1,1,1,0,1]) K) := at_seq (by kernel_rfl)
theorem n106_14 : g106 call k [1,1,1,0,0] a H K = o106 0 call [1,1,1,0,0] 0 a H (K .normal) := at_region (by kernel_rfl)
theorem n106_15 : g106 call k [1,1,1,0,1] a H K = g106 call k [1,1,1,0,1,0] a H (hBlock 0 K) := at_block (by kernel_rfl)
theorem n106_16 : g106 call k [1,1,1,0,1,0] a H K = gLoop (g106 call k [1,1,1,0,1,0,0]) K k a H := at_loop (by kernel_rfl)
theorem n106_17 : g106 call k [1,1,1,0,1,0,0] a H K = g106 call k [1,1,1,0,1,0,0,0] a H (hSeq (g106 call k [1,1,1,0,1,0,0,1]) K) := at_seq (by kernel_rfl)
theorem n106_18 : g106 call k [1,1,1,0,1,0,0,0] a H K = g106 call k [1,1,1,0,1,0,0,0,0] a H (hSeq (g106 call k [1,1,1,0,1,0,0,0,1]) K) := at_seq (by kernel_rfl)
theorem n106_19 : g106 call k [1,1,1,0,1,0,0,0,0] a H K = o106 0 call [1,1,1,0,1,0,0,0,0] 0 a H (K .normal) := at_region (by kernel_rfl)
theorem n106_20 : g106 call k [1,1,1,0,1,0,0,0,1] a H K = onBool (asB (GA.eval a (.tmp 19))) (g106 call k [1,1,1,0,1,0,0,0,1,0] a H K) (g106 call k [1,1,1,0,1,0,0,0,1,1] a H K) := at_cond (by kernel_rfl)
theorem n106_21 : g106 call k [1,1,1,0,1,0,0,0,1,0] a H K = K .normal a H := at_skip (by kernel_rfl)
theorem n106_22 : g106 call k [1,1,1,0,1,0,0,1] a H K = g106 call k [1,1,1,0,1,0,0,1,0] a H (hSeq (g106 call k [1,1,1,0,1,0,0,1,1]) K) := at_seq (by kernel_rfl)
theorem n106_23 : g106 call k [1,1,1,0,1,0,0,1,0] a H K = g106 call k [1,1,1,0,1,0,0,1,0,0] a H (hBlock 1 K) := at_block (by kernel_rfl)
theorem n106_24 : g106 call k [1,1,1,0,1,0,0,1,0,0] a H K = g106 call k [1,1,1,0,1,0,0,1,0,0,0] a H (hSeq (g106 call k [1,1,1,0,1,0,0,1,0,0,1]) K) := at_seq (by kernel_rfl)
theorem n106_25 : g106 call k [1,1,1,0,1,0,0,1,0,0,0] a H K = o106 0 call [1,1,1,0,1,0,0,1,0,0,0] 0 a H (K .normal) := at_region (by kernel_rfl)
theorem n106_26 : g106 call k [1,1,1,0,1,0,0,1,0,0,1] a H K = g106 call k [1,1,1,0,1,0,0,1,0,0,1,0] a H (hSeq (g106 call k [1,1,1,0,1,0,0,1,0,0,1,1]) K) := at_seq (by kernel_rfl)
theorem n106_27 : g106 call k [1,1,1,0,1,0,0,1,0,0,1,0] a H K = o106 0 call [1,1,1,0,1,0,0,1,0,0,1,0] 0 a H (K .normal) := at_region (by kernel_rfl)
theorem n106_28 : g106 call k [1,1,1,0,1,0,0,1,0,0,1,1] a H K = onBool (asB (GA.eval a (.tmp 29))) (g106 call k [1,1,1,0,1,0,0,1,0,0,1,1,0] a H K) (g106 call k [1,1,1,0,1,0,0,1,0,0,1,1,1] a H K) := at_cond (by kernel_rfl)
theorem n106_29 : g106 call k [1,1,1,0,1,0,0,1,0,0,1,1,0] a H K = g106 call k [1,1,1,0,1,0,0,1,0,0,1,1,0,0] a H (hSeq (g106 call k [1,1,1,0,1,0,0,1,0,0,1,1,0,1]) K) := at_seq (by kernel_rfl)
theorem n106_30 : g106 call k [1,1,1,0,1,0,0,1,0,0,1,1,1] a H K = K .normal a H := at_skip (by kernel_rfl)
theorem n106_31 : g106 call k [1,1,1,0,1,0,0,1,1] a H K = o106 0 call [1,1,1,0,1,0,0,1,1] 0 a H (K .normal) := at_region (by kernel_rfl)
theorem n106_32 : g106 call k [1,1,1,0,1,0,0,0,1,1] a H K = K (.exit 0) a H := at_exit (by kernel_rfl)
theorem n106_33 : g106 call k [1,1,1,0,1,0,0,1,0,0,1,1,0,0] a H K = o106 0 call [1,1,1,0,1,0,0,1,0,0,1,1,0,0] 0 a H (K .normal) := at_region (by kernel_rfl)
theorem n106_34 : g106 call k [1,1,1,0,1,0,0,1,0,0,1,1,0,1] a H K = o106 0 call [1,1,1,0,1,0,0,1,0,0,1,1,0,1] 0 a H (K .normal) := at_region (by kernel_rfl)
theorem n106_35 : g106 call k [1,1,1,1] a H K = g106 call k [1,1,1,1,0] a H (hSeq (g106 call k [1,1,1,1,1]) K) := at_seq (by kernel_rfl)
theorem n106_36 : g106 call k [1,1,1,1,0] a H K = o106 0 call [1,1,1,1,0] 0 a H (K .normal) := at_region (by kernel_rfl)
theorem n106_37 : g106 call k [1,1,1,1,1] a H K = g106 call k [1,1,1,1,1,0] a H (hSeq (g106 call k [1,1,1,1,1,1]) K) := at_seq (by kernel_rfl)
theorem n106_38 : g106 call k [1,1,1,1,1,0] a H K = o106 0 call [1,1,1,1,1,0] 0 a H (K .normal) := at_region (by kernel_rfl)
theorem n106_39 : g106 call k [1,1,1,1,1,1] a H K = K .ret a H := at_ret (by kernel_rfl)
theorem s106_0 : o106 0 call [0] 0 (FG 42 (fun _ => undef) [(1, p1), (0, p0)]) H K' =
  K' (FG 42 (fun _ => undef) [(4, (.slice none 0 0)), (1, p1), (0, p0)]) H := by kernel_rfl
theorem s106_1 : o106 0 call [1,0] 0 (FG 42 (fun _ => undef) [(4, (.slice none 0 0)), (1, p1), (0, p0)]) H K' =
  onCall 0 call (.func (.func 159) #[] #[]) [p0, p1] H fun v1 H2 =>
  K' (FG 42 (fun _ => undef) [(5, v1), (10, v1), (9, p1), (8, p0), (4, (.slice none 0 0)), (1, p1), (0, p0)]) H2 := by kernel_rfl
theorem s106_2 : o106 0 call [1,1,0,0] 0 (FG 42 (fun _ => undef) [(5, v1), (10, v1), (9, p1), (8, p0), (4, (.slice none 0 0)), (1, p1), (0, p0)]) H2 K' =
  onV ((oBin Try.prog .eql 3 v1 (.int .i64 (-1))).filter closed) fun v3 =>
  K' (FG 42 (fun _ => undef) [(12, v3), (11, v1), (5, v1), (10, v1), (9, p1), (8, p0), (4, (.slice none 0 0)), (1, p1), (0, p0)]) H2 := by kernel_rfl
theorem s106_3 : o106 0 call [1,1,0,1,0,0] 0 (FG 42 (fun _ => undef) [(12, v3), (11, v1), (5, v1), (10, v1), (9, p1), (8, p0), (4, (.slice none 0 0)), (1, p1), (0, p0)]) H2 K' =
  K' (FG 42 (fun _ => undef) [(4, p0), (13, p0), (12, v3), (11, v1), (5, v1), (10, v1), (9, p1), (8, p0), (4, (.slice none 0 0)), (1, p1), (0, p0)]) H2 := by kernel_rfl
theorem s106_4 : o106 0 call [1,1,1,0,0] 0 (FG 42 (fun _ => undef) [(12, v3), (11, v1), (5, v1), (10, v1), (9, p1), (8, p0), (4, (.slice none 0 0)), (1, p1), (0, p0)]) H2 K' =
  onV ((oBin Try.prog .add 3 v1 (.int .i64 1)).filter closed) fun v4 =>
  K' (FG 42 (fun _ => undef) [(6, v4), (15, v4), (14, v1), (12, v3), (11, v1), (5, v1), (10, v1), (9, p1), (8, p0), (4, (.slice none 0 0)), (1, p1), (0, p0)]) H2 := by kernel_rfl
theorem s106_5 : o106 0 call [1,1,1,0,1,0,0,0,0] 0 (FF 42 d) H K' =
  onV (oLen Try.prog 86 (d 0)) fun v1 =>
  onV ((oBin Try.prog .lss 3 (d 6) v1).filter closed) fun v2 =>
  K' (FG 42 d [(19, v2), (18, v1), (17, (d 0)), (16, (d 6))]) H := by kernel_rfl
theorem s106_6 : o106 0 call [1,1,1,0,1,0,0,1,0,0,0] 0 (FG 42 d [(19, v2), (18, v1), (17, (d 0)), (16, (d 6))]) H K' =
  onV (oIndexAddr Try.prog 86 (d 0) (d 6)) fun v3 =>
  onV (gLoad Try.prog 91 v3 H) fun v4 =>
  onH (gStore Try.prog 91 (.pointer (some ⟨H.n, 0, none⟩)) v4 (GH.push H (.row [(.int .i64 0), (.int .i64 0), (.int .i64 0)] 91 false))) fun H5 =>
  K' (FG 42 d [(7, (.pointer (some ⟨H.n, 0, none⟩))), (25, v4), (24, v3), (23, (d 6)), (22, (d 0)), (19, v2), (18, v1), (17, (d 0)), (16, (d 6))]) H5 := by kernel_rfl
theorem s106_7 : o106 0 call [1,1,1,0,1,0,0,1,0,0,1,0] 0 (FG 42 d [(7, (.pointer (some ⟨H.n, 0, none⟩))), (25, v4), (24, v3), (23, (d 6)), (22, (d 0)), (19, v2), (18, v1), (17, (d 0)), (16, (d 6))]) H5 K' =
  onV (gLoad Try.prog 91 (.pointer (some ⟨H.n, 0, none⟩)) H5) fun v6 =>
  onCall 0 call (d 1) [v6] H5 fun v7 H8 =>
  onV ((oUn Try.prog .not v7).filter closed) fun v9 =>
  K' (FG 42 d [(29, v9), (28, v7), (27, v6), (26, (d 1)), (7, (.pointer (some ⟨H.n, 0, none⟩))), (25, v4), (24, v3), (23, (d 6)), (22, (d 0)), (19, v2), (18, v1), (17, (d 0)), (16, (d 6))]) H8 := by kernel_rfl
theorem s106_8 : o106 0 call [1,1,1,0,1,0,0,1,1] 0 (FG 42 d [(29, v9), (28, v7), (27, v6), (26, (d 1)), (7, (.pointer (some ⟨H.n, 0, none⟩))), (25, v4), (24, v3), (23, (d 6)), (22, (d 0)), (19, v2), (18, v1), (17, (d 0)), (16, (d 6))]) H8 K' =
  onV ((oBin Try.prog .add 3 (d 6) (.int .i64 1)).filter closed) fun v10 =>
  K' (FG 42 d [(6, v10), (21, v10), (20, (d 6)), (29, v9), (28, v7), (27, v6), (26, (d 1)), (7, (.pointer (some ⟨H.n, 0, none⟩))), (25, v4), (24, v3), (23, (d 6)), (22, (d 0)), (19, v2), (18, v1), (17, (d 0)), (16, (d 6))]) H8 := by kernel_rfl
theorem s106_9 : o106 0 call [1,1,1,0,1,0,0,1,0,0,1,1,0,0] 0 (FF 42 d) H K' =
  onV (gLoad Try.prog 91 (d 7) H) fun v1 =>
  onV (oIndexAddr Try.prog 86 (d 0) (d 5)) fun v2 =>
  onH (gStore Try.prog 91 v2 v1 H) fun H3 =>
  K' (FG 42 d [(33, v2), (32, v1), (31, (d 5)), (30, (d 0))]) H3 := by kernel_rfl
theorem s106_10 : o106 0 call [1,1,1,0,1,0,0,1,0,0,1,1,0,1] 0 (FG 42 d [(33, v2), (32, v1), (31, (d 5)), (30, (d 0))]) H3 K' =
  onV ((oBin Try.prog .add 3 (d 5) (.int .i64 1)).filter closed) fun v4 =>
  K' (FG 42 d [(5, v4), (35, v4), (34, (d 5)), (33, v2), (32, v1), (31, (d 5)), (30, (d 0))]) H3 := by kernel_rfl
theorem s106_11 : o106 0 call [1,1,1,0,1,0,0,1,1] 0 (FG 42 d [(5, v4), (35, v4), (34, (d 5)), (33, v2), (32, v1), (31, (d 5)), (30, (d 0))]) H3 K' =
  onV ((oBin Try.prog .add 3 (d 6) (.int .i64 1)).filter closed) fun v5 =>
  K' (FG 42 d [(6, v5), (21, v5), (20, (d 6)), (5, v4), (35, v4), (34, (d 5)), (33, v2), (32, v1), (31, (d 5)), (30, (d 0))]) H3 := by kernel_rfl
theorem s106_12 : o106 0 call [1,1,1,1,0] 0 (FF 42 d) H K' =
  onV (oSlice Try.prog 86 (d 0) (some (d 5)) none none) fun v1 =>
  onH (gClear Try.prog 86 v1 H) fun H2 =>
  K' (FG 42 d [(38, v1), (37, (d 5)), (36, (d 0))]) H2 := by kernel_rfl
theorem s106_13 : o106 0 call [1,1,1,1,1,0] 0 (FG 42 d [(38, v1), (37, (d 5)), (36, (d 0))]) H2 K' =
  onV (oSlice Try.prog 86 (d 0) none (some (d 5)) none) fun v3 =>
  K' (FG 42 d [(4, v3), (41, v3), (40, (d 5)), (39, (d 0)), (38, v1), (37, (d 5)), (36, (d 0))]) H2 := by kernel_rfl
def f106_l5_P (ag : AG) (sg : Sg4) : Prop := ∀ (d : Nat → Value) (H : GH), ag (FF 42 d) H = sg (d 0) (d 1) (d 5) (d 6) H
theorem f106_l5_at {ag : AG} {sg : Sg4} (h : f106_l5_P ag sg) : ag (FF 42 d) H = sg (d 0) (d 1) (d 5) (d 6) H := h d H
noncomputable def f106_r9 (call : Handle) (k : Nat) (sg_l5 : Sg4) (x0 x1 x5 x6 x7 : Value) (H : GH) : M (Value × GH) :=
  onV (gLoad Try.prog 91 x7 H) fun v1 =>
  onV (oIndexAddr Try.prog 86 x0 x5) fun v2 =>
  onH (gStore Try.prog 91 v2 v1 H) fun H3 =>
  onV ((oBin Try.prog .add 3 x5 (.int .i64 1)).filter closed) fun v4 =>
  onV ((oBin Try.prog .add 3 x6 (.int .i64 1)).filter closed) fun v5 =>
  (sg_l5 x0 x1 v4 v5 H3)
theorem f106_r9_eq (call : Handle) (k : Nat) (ag_l5 : AG) (sg_l5 : Sg4) (h_l5 : f106_l5_P ag_l5 sg_l5) : g106 call k [1,1,1,0,1,0,0,1,0,0,1,1,0,0] (FF 42 d) H (hSeq (g106 call k [1,1,1,0,1,0,0,1,0,0,1,1,0,1]) (hBlock 1 (hSeq (g106 call k [1,1,1,0,1,0,0,1,1]) (hLoop ag_l5 (hBlock 0 (hSeq (g106 call k [1,1,1,1]) (hFin Try.prog Try.f106))))))) = f106_r9 call k sg_l5 (d 0) (d 1) (d 5) (d 6) (d 7) H := by
  unfold f106_r9
  rw [n106_33]
  rw [s106_9]
  refine onV_c fun v1 => ?_
  refine onV_c fun v2 => ?_
  refine onH_c fun H3 => ?_
  rw [hSeq_n]
  rw [n106_34]
  rw [s106_10]
  refine onV_c fun v4 => ?_
  rw [hBlock_n]
  rw [hSeq_n]
  rw [n106_31]
  rw [s106_11]
  refine onV_c fun v5 => ?_
  rw [hLoop_n]
  generalize e : (FG 42 d [(6, v5), (21, v5), (20, (d 6)), (5, v4), (35, v4), (34, (d 5)), (33, v2), (32, v1), (31, (d 5)), (30, (d 0))]) = a
  rw [show a = (FF 42 (gf a)) from (FF_gf (by subst e; exact FG_len)).symm]
  exact (f106_l5_at (d := gf a) h_l5).trans (by subst e; kernel_rfl)
noncomputable def f106_r11 (call : Handle) (k : Nat) (x0 x5 : Value) (H : GH) : M (Value × GH) :=
  onV (oSlice Try.prog 86 x0 (some x5) none none) fun v1 =>
  onH (gClear Try.prog 86 v1 H) fun H2 =>
  onV (oSlice Try.prog 86 x0 none (some x5) none) fun v3 =>
  some [(v3, H2)]
theorem f106_r11_eq (call : Handle) (k : Nat) : g106 call k [1,1,1,1] (FF 42 d) H (hFin Try.prog Try.f106) = f106_r11 call k (d 0) (d 5) H := by
  unfold f106_r11
  rw [n106_35]
  rw [n106_36]
  rw [s106_12]
  refine onV_c fun v1 => ?_
  refine onH_c fun H2 => ?_
  rw [hSeq_n]
  rw [n106_37]
  rw [n106_38]
  rw [s106_13]
  refine onV_c fun v3 => ?_
  rw [hSeq_n]
  rw [n106_39]
  kernel_rfl
noncomputable def f106_l5b (call : Handle) (k : Nat) (sg_l5 : Sg4) (x0 x1 x5 x6 : Value) (H : GH) : M (Value × GH) :=
  onV (oLen Try.prog 86 x0) fun v1 =>
  onV ((oBin Try.prog .lss 3 x6 v1).filter closed) fun v2 =>
  onBool (asB v2)
  (onV (oIndexAddr Try.prog 86 x0 x6) fun v3 =>
  onV (gLoad Try.prog 91 v3 H) fun v4 =>
  onH (gStore Try.prog 91 (.pointer (some ⟨H.n, 0, none⟩)) v4 (GH.push H (.row [(.int .i64 0), (.int .i64 0), (.int .i64 0)] 91 false))) fun H5 =>
  onV (gLoad Try.prog 91 (.pointer (some ⟨H.n, 0, none⟩)) H5) fun v6 =>
  onCall 0 call x1 [v6] H5 fun v7 H8 =>
  onV ((oUn Try.prog .not v7).filter closed) fun v9 =>
  onBool (asB v9)
  ((f106_r9 call k (sg_l5) x0 x1 x5 x6 (.pointer (some ⟨H.n, 0, none⟩)) H8))
  (onV ((oBin Try.prog .add 3 x6 (.int .i64 1)).filter closed) fun v10 =>
  (sg_l5 x0 x1 x5 v10 H8)))
  ((f106_r11 call k x0 x5 H))
theorem f106_l5b_eq (call : Handle) (k : Nat) (ag_l5 : AG) (sg_l5 : Sg4) (h_l5 : f106_l5_P ag_l5 sg_l5) : g106 call k [1,1,1,0,1,0,0] (FF 42 d) H (hLoop ag_l5 (hBlock 0 (hSeq (g106 call k [1,1,1,1]) (hFin Try.prog Try.f106)))) = f106_l5b call k sg_l5 (d 0) (d 1) (d 5) (d 6) H := by
  unfold f106_l5b
  rw [n106_17]
  rw [n106_18]
  rw [n106_19]
  rw [s106_5]
  refine onV_c fun v1 => ?_
  refine onV_c fun v2 => ?_
  rw [hSeq_n]
  rw [n106_20]
  refine onBool_cc (by kernel_rfl) ?_ ?_
  · rw [n106_21]
    rw [hSeq_n]
    rw [n106_22]
    rw [n106_23]
    rw [n106_24]
    rw [n106_25]
    rw [s106_6]
    refine onV_c fun v3 => ?_
    refine onV_c fun v4 => ?_
    refine onH_c fun H5 => ?_
    rw [hSeq_n]
    rw [n106_26]
    rw [n106_27]
    rw [s106_7]
    refine onV_c fun v6 => ?_
    refine onCall_c fun v7 H8 => ?_
    refine onV_c fun v9 => ?_
    rw [hSeq_n]
    rw [n106_28]
    refine onBool_cc (by kernel_rfl) ?_ ?_
    · rw [n106_29]
      generalize e : (FG 42 d [(29, v9), (28, v7), (27, v6), (26, (d 1)), (7, (.pointer (some ⟨H.n, 0, none⟩))), (25, v4), (24, v3), (23, (d 6)), (22, (d 0)), (19, v2), (18, v1), (17, (d 0)), (16, (d 6))]) = a
      rw [show a = (FF 42 (gf a)) from (FF_gf (by subst e; exact FG_len)).symm]
      exact (f106_r9_eq (d := gf a) call k ag_l5 sg_l5 h_l5).trans (by subst e; kernel_rfl)
    · rw [n106_30]
      rw [hBlock_n]
      rw [hSeq_n]
      rw [n106_31]
      rw [s106_8]
      refine onV_c fun v10 => ?_
      rw [hLoop_n]
      generalize e : (FG 42 d [(6, v10), (21, v10), (20, (d 6)), (29, v9), (28, v7), (27, v6), (26, (d 1)), (7, (.pointer (some ⟨H.n, 0, none⟩))), (25, v4), (24, v3), (23, (d 6)), (22, (d 0)), (19, v2), (18, v1), (17, (d 0)), (16, (d 6))]) = a
      rw [show a = (FF 42 (gf a)) from (FF_gf (by subst e; exact FG_len)).symm]
      exact (f106_l5_at (d := gf a) h_l5).trans (by subst e; kernel_rfl)
  · rw [n106_32]
    rw [hSeq_e, hLoop_e, hBlock_hit]
    rw [hSeq_n]
    generalize e : (FG 42 d [(19, v2), (18, v1), (17, (d 0)), (16, (d 6))]) = a
    rw [show a = (FF 42 (gf a)) from (FF_gf (by subst e; exact FG_len)).symm]
    exact (f106_r11_eq (d := gf a) call k).trans (by subst e; kernel_rfl)
noncomputable def f106_l5 (call : Handle) (k : Nat) : Nat → Value → Value → Value → Value → GH → M (Value × GH)
  | 0, _, _, _, _, _ => none
  | r + 1, x0, x1, x5, x6, H => f106_l5b call k (f106_l5 call k r) x0 x1 x5 x6 H
theorem f106_l5_eq (call : Handle) (k : Nat) : ∀ (r : Nat), f106_l5_P (gLoop (g106 call k [1,1,1,0,1,0,0]) (hBlock 0 (hSeq (g106 call k [1,1,1,1]) (hFin Try.prog Try.f106))) r) (f106_l5 call k r) := by
  intro r
  induction r with
  | zero => unfold f106_l5_P; intros; rfl
  | succ r ih => unfold f106_l5_P; intros; exact f106_l5b_eq call k _ _ ih
noncomputable def f106_sh (call : Handle) (k : Nat) (p0 p1 : Value) (H : GH) : M (Value × GH) :=
  onCall 0 call (.func (.func 159) #[] #[]) [p0, p1] H fun v1 H2 =>
  onV ((oBin Try.prog .eql 3 v1 (.int .i64 (-1))).filter closed) fun v3 =>
  onBool (asB v3)
  (some [(p0, H2)])
  (onV ((oBin Try.prog .add 3 v1 (.int .i64 1)).filter closed) fun v4 =>
  (f106_l5 call k k p0 p1 v1 v4 H2))
theorem f106_run (call : Handle) (k : Nat) (p0 p1 : Value) (H : GH) : g106 call k [] (FG 42 (fun _ => undef) [(1, p1), (0, p0)]) H (hFin Try.prog Try.f106) = f106_sh call k p0 p1 H := by
  unfold f106_sh
  rw [n106_0]
  rw [n106_1]
  rw [s106_0]
  rw [hSeq_n]
  rw [n106_2]
  rw [n106_3]
  rw [s106_1]
  refine onCall_c fun v1 H2 => ?_
  rw [hSeq_n]
  rw [n106_4]
  rw [n106_5]
  rw [n106_6]
  rw [s106_2]
  refine onV_c fun v3 => ?_
  rw [hSeq_n]
  rw [n106_7]
  refine onBool_cc (by kernel_rfl) ?_ ?_
  · rw [n106_8]
    rw [n106_9]
    rw [s106_3]
    rw [hSeq_n]
    rw [n106_10]
    rw [hSeq_r]
    kernel_rfl
  · rw [n106_11]
    rw [hSeq_n]
    rw [n106_12]
    rw [n106_13]
    rw [n106_14]
    rw [s106_4]
    refine onV_c fun v4 => ?_
    rw [hSeq_n]
    rw [n106_15]
    rw [n106_16]
    generalize e : (FG 42 (fun _ => undef) [(6, v4), (15, v4), (14, v1), (12, v3), (11, v1), (5, v1), (10, v1), (9, p1), (8, p0), (4, (.slice none 0 0)), (1, p1), (0, p0)]) = a
    rw [show a = (FF 42 (gf a)) from (FF_gf (by subst e; exact FG_len)).symm]
    exact (f106_l5_at (d := gf a) (f106_l5_eq call k k)).trans (by subst e; kernel_rfl)
theorem f106_eq (call : Handle) (k : Nat) (p0 p1 : Value) (H : GH) : gFunc Try.prog call k Try.f106 [p0, p1] H = f106_sh call k p0 p1 H :=
  Eq.trans (by kernel_rfl) (f106_run call k p0 p1 H)
end
noncomputable def g107 {β : Type} (call : Handle) (k : Nat) (p : List Nat) : GA → GH → Kont β → M β := gCode Try.prog call k (fAt Try.f107 p)
noncomputable def o107 {β : Type} (d : Nat) (call : Handle) (p : List Nat) (i : Nat) : GA → GH → (GA → GH → M β) → M β := gOps Try.prog d call (opsAt (fAt Try.f107 p)) ((opsAt (fAt Try.f107 p)).drop i)
noncomputable def t107 {β : Type} (d : Nat) (call : Handle) (p : List Nat) (i n : Nat) : GA → GH → (GA → GH → M β) → M β := gOps Try.prog d call (opsAt (fAt Try.f107 p)) (((opsAt (fAt Try.f107 p)).drop i).take n)
theorem o107_s {β : Type} {d : Nat} {call : Handle} {p : List Nat} {a : GA} {H : GH} {K : GA → GH → M β} (i n : Nat) : o107 d call p i a H K = t107 d call p i n a H fun a H => o107 d call p (i + n) a H K := gOps_split i n
section
variable {β : Type} {call : Handle} {k : Nat} {a : GA} {K : Kont β} {K' : GA → GH → M β}
variable {d : Nat → Value} {xg : Value}
variable {p0 p1 : Value}
variable {H : GH}
theorem n107_0 : g107 call k [] a H K = g107 call k [0] a H (hSeq (g107 call k [1]) K) := at_seq (by kernel_rfl)
theorem n107_1 : g107 call k [0] a H K = o107 0 call [0] 0 a H (K .normal) := at_region (by kernel_rfl)
theorem n107_2 : g107 call k [1] a H K = g107 call k [1,0] a H (hSeq (g107 call k [1,1]) K) := at_seq (by kernel_rfl)
theorem n107_3 : g107 call k [1,0] a H K = o107 0 call [1,0] 0 a H (K .normal) := at_region (by kernel_rfl)
theorem n107_4 : g107 call k [1,1] a H K = K .ret a H := at_ret (by kernel_rfl)
theorem s107_0 : o107 0 call [0] 0 (FG 8 (fun _ => undef) [(1, p1), (0, p0)]) H K' =
  K' (FG 8 (fun _ => undef) [(3, (.bool false)), (2, (.pointer (some ⟨H.n, 0, none⟩))), (1, p1), (0, p0)]) (GH.push H (.row (Value.cells p0).toList 91 false)) := by kernel_rfl
theorem s107_1 : o107 0 call [1,0] 0 (FG 8 (fun _ => undef) [(3, (.bool false)), (2, (.pointer (some ⟨H.n, 0, none⟩))), (1, p1), (0, p0)]) (GH.push H (.row (Value.cells p0).toList 91 false)) K' =
  onV (gLoad Try.prog 3 (.pointer (some ⟨H.n, 0, none⟩)) (GH.push H (.row (Value.cells p0).toList 91 false))) fun v1 =>
  onV (gLoad Try.prog 3 p1 (GH.push H (.row (Value.cells p0).toList 91 false))) fun v2 =>
  onV ((oBin Try.prog .eql 3 v1 v2).filter closed) fun v3 =>
  K' (FG 8 (fun _ => undef) [(3, v3), (7, v3), (6, v2), (5, v1), (4, (.pointer (some ⟨H.n, 0, none⟩))), (3, (.bool false)), (2, (.pointer (some ⟨H.n, 0, none⟩))), (1, p1), (0, p0)]) (GH.push H (.row (Value.cells p0).toList 91 false)) := by kernel_rfl
noncomputable def f107_sh (call : Handle) (k : Nat) (p0 p1 : Value) (H : GH) : M (Value × GH) :=
  onV (gLoad Try.prog 3 (.pointer (some ⟨H.n, 0, none⟩)) (GH.push H (.row (Value.cells p0).toList 91 false))) fun v1 =>
  onV (gLoad Try.prog 3 p1 (GH.push H (.row (Value.cells p0).toList 91 false))) fun v2 =>
  onV ((oBin Try.prog .eql 3 v1 v2).filter closed) fun v3 =>
  some [(v3, (GH.push H (.row (Value.cells p0).toList 91 false)))]
theorem f107_run (call : Handle) (k : Nat) (p0 p1 : Value) (H : GH) : g107 call k [] (FG 8 (fun _ => undef) [(1, p1), (0, p0)]) H (hFin Try.prog Try.f107) = f107_sh call k p0 p1 H := by
  unfold f107_sh
  rw [n107_0]
  rw [n107_1]
  rw [s107_0]
  rw [hSeq_n]
  rw [n107_2]
  rw [n107_3]
  rw [s107_1]
  refine onV_c fun v1 => ?_
  refine onV_c fun v2 => ?_
  refine onV_c fun v3 => ?_
  rw [hSeq_n]
  rw [n107_4]
  kernel_rfl
theorem f107_eq (call : Handle) (k : Nat) (p0 p1 : Value) (H : GH) : gFunc Try.prog call k Try.f107 [p0, p1] H = f107_sh call k p0 p1 H :=
  Eq.trans (by kernel_rfl) (f107_run call k p0 p1 H)
end
noncomputable def g108 {β : Type} (call : Handle) (k : Nat) (p : List Nat) : GA → GH → Kont β → M β := gCode Try.prog call k (fAt Try.f108 p)
noncomputable def o108 {β : Type} (d : Nat) (call : Handle) (p : List Nat) (i : Nat) : GA → GH → (GA → GH → M β) → M β := gOps Try.prog d call (opsAt (fAt Try.f108 p)) ((opsAt (fAt Try.f108 p)).drop i)
noncomputable def t108 {β : Type} (d : Nat) (call : Handle) (p : List Nat) (i n : Nat) : GA → GH → (GA → GH → M β) → M β := gOps Try.prog d call (opsAt (fAt Try.f108 p)) (((opsAt (fAt Try.f108 p)).drop i).take n)
theorem o108_s {β : Type} {d : Nat} {call : Handle} {p : List Nat} {a : GA} {H : GH} {K : GA → GH → M β} (i n : Nat) : o108 d call p i a H K = t108 d call p i n a H fun a H => o108 d call p (i + n) a H K := gOps_split i n
section
variable {β : Type} {call : Handle} {k : Nat} {a : GA} {K : Kont β} {K' : GA → GH → M β}
variable {d : Nat → Value} {xg : Value}
variable {p0 p1 p2 : Value}
variable {v1 v2 v3 v4 v5 v6 v7 v8 : Value}
variable {H : GH}
theorem n108_0 : g108 call k [] a H K = g108 call k [0] a H (hSeq (g108 call k [1]) K) := at_seq (by kernel_rfl)
theorem n108_1 : g108 call k [0] a H K = o108 0 call [0] 0 a H (K .normal) := at_region (by kernel_rfl)
theorem n108_2 : g108 call k [1] a H K = g108 call k [1,0] a H (hSeq (g108 call k [1,1]) K) := at_seq (by kernel_rfl)
theorem n108_3 : g108 call k [1,0] a H K = o108 0 call [1,0] 0 a H (K .normal) := at_region (by kernel_rfl)
theorem n108_4 : g108 call k [1,1] a H K = g108 call k [1,1,0] a H (hSeq (g108 call k [1,1,1]) K) := at_seq (by kernel_rfl)
theorem n108_5 : g108 call k [1,1,0] a H K = g108 call k [1,1,0,0] a H (hBlock 0 K) := at_block (by kernel_rfl)
theorem n108_6 : g108 call k [1,1,0,0] a H K = gLoop (g108 call k [1,1,0,0,0]) K k a H := at_loop (by kernel_rfl)
theorem n108_7 : g108 call k [1,1,0,0,0] a H K = g108 call k [1,1,0,0,0,0] a H (hSeq (g108 call k [1,1,0,0,0,1]) K) := at_seq (by kernel_rfl)
theorem n108_8 : g108 call k [1,1,0,0,0,0] a H K = g108 call k [1,1,0,0,0,0,0] a H (hSeq (g108 call k [1,1,0,0,0,0,1]) K) := at_seq (by kernel_rfl)
theorem n108_9 : g108 call k [1,1,0,0,0,0,0] a H K = o108 0 call [1,1,0,0,0,0,0] 0 a H (K .normal) := at_region (by kernel_rfl)
theorem n108_10 : g108 call k [1,1,0,0,0,0,1] a H K = onBool (asB (GA.eval a (.tmp 13))) (g108 call k [1,1,0,0,0,0,1,0] a H K) (g108 call k [1,1,0,0,0,0,1,1] a H K) := at_cond (by kernel_rfl)
theorem n108_11 : g108 call k [1,1,0,0,0,0,1,0] a H K = K .normal a H := at_skip (by kernel_rfl)
theorem n108_12 : g108 call k [1,1,0,0,0,1] a H K = g108 call k [1,1,0,0,0,1,0] a H (hBlock 1 K) := at_block (by kernel_rfl)
theorem n108_13 : g108 call k [1,1,0,0,0,1,0] a H K = g108 call k [1,1,0,0,0,1,0,0] a H (hSeq (g108 call k [1,1,0,0,0,1,0,1]) K) := at_seq (by kernel_rfl)
theorem n108_14 : g108 call k [1,1,0,0,0,1,0,0] a H K = o108 0 call [1,1,0,0,0,1,0,0] 0 a H (K .normal) := at_region (by kernel_rfl)
theorem n108_15 : g108 call k [1,1,0,0,0,1,0,1] a H K = g108 call k [1,1,0,0,0,1,0,1,0] a H (hSeq (g108 call k [1,1,0,0,0,1,0,1,1]) K) := at_seq (by kernel_rfl)
theorem n108_16 : g108 call k [1,1,0,0,0,1,0,1,0] a H K = g108 call k [1,1,0,0,0,1,0,1,0,0] a H (hSeq (g108 call k [1,1,0,0,0,1,0,1,0,1]) K) := at_seq (by kernel_rfl)
theorem n108_17 : g108 call k [1,1,0,0,0,1,0,1,0,0] a H K = o108 0 call [1,1,0,0,0,1,0,1,0,0] 0 a H (K .normal) := at_region (by kernel_rfl)
theorem n108_18 : g108 call k [1,1,0,0,0,1,0,1,0,1] a H K = g108 call k [1,1,0,0,0,1,0,1,0,1,0] a H (hBlock 2 K) := at_block (by kernel_rfl)
theorem n108_19 : g108 call k [1,1,0,0,0,1,0,1,0,1,0] a H K = gLoop (g108 call k [1,1,0,0,0,1,0,1,0,1,0,0]) K k a H := at_loop (by kernel_rfl)
theorem n108_20 : g108 call k [1,1,0,0,0,0,1,1] a H K = K (.exit 0) a H := at_exit (by kernel_rfl)
theorem n108_21 : g108 call k [1,1,1] a H K = g108 call k [1,1,1,0] a H (hSeq (g108 call k [1,1,1,1]) K) := at_seq (by kernel_rfl)
theorem n108_22 : g108 call k [1,1,1,0] a H K = o108 0 call [1,1,1,0] 0 a H (K .normal) := at_region (by kernel_rfl)
theorem n108_23 : g108 call k [1,1,1,1] a H K = K .ret a H := at_ret (by kernel_rfl)
theorem n108_24 : g108 call k [1,1,0,0,0,1,0,1,0,1,0,0] a H K = g108 call k [1,1,0,0,0,1,0,1,0,1,0,0,0] a H (hSeq (g108 call k [1,1,0,0,0,1,0,1,0,1,0,0,1]) K) := at_seq (by kernel_rfl)
theorem n108_25 : g108 call k [1,1,0,0,0,1,0,1,0,1,0,0,0] a H K = o108 0 call [1,1,0,0,0,1,0,1,0,1,0,0,0] 0 a H (K .normal) := at_region (by kernel_rfl)
theorem n108_26 : g108 call k [1,1,0,0,0,1,0,1,0,1,0,0,1] a H K = g108 call k [1,1,0,0,0,1,0,1,0,1,0,0,1,0] a H (hSeq (g108 call k [1,1,0,0,0,1,0,1,0,1,0,0,1,1]) K) := at_seq (by kernel_rfl)
theorem n108_27 : g108 call k [1,1,0,0,0,1,0,1,0,1,0,0,1,0] a H K = onBool (asB (GA.eval a (.tmp 20))) (g108 call k [1,1,0,0,0,1,0,1,0,1,0,0,1,0,0] a H K) (g108 call k [1,1,0,0,0,1,0,1,0,1,0,0,1,0,1] a H K) := at_cond (by kernel_rfl)
theorem n108_28 : g108 call k [1,1,0,0,0,1,0,1,0,1,0,0,1,0,0] a H K = K .normal a H := at_skip (by kernel_rfl)
theorem n108_29 : g108 call k [1,1,0,0,0,1,0,1,0,1,0,0,1,1] a H K = g108 call k [1,1,0,0,0,1,0,1,0,1,0,0,1,1,0] a H (hSeq (g108 call k [1,1,0,0,0,1,0,1,0,1,0,0,1,1,1]) K) := at_seq (by kernel_rfl)
theorem n108_30 : g108 call k [1,1,0,0,0,1,0,1,0,1,0,0,1,1,0] a H K = g108 call k [1,1,0,0,0,1,0,1,0,1,0,0,1,1,0,0] a H (hBlock 3 K) := at_block (by kernel_rfl)
theorem n108_31 : g108 call k [1,1,0,0,0,1,0,1,0,1,0,0,1,1,0,0] a H K = g108 call k [1,1,0,0,0,1,0,1,0,1,0,0,1,1,0,0,0] a H (hSeq (g108 call k [1,1,0,0,0,1,0,1,0,1,0,0,1,1,0,0,1]) K) := at_seq (by kernel_rfl)
theorem n108_32 : g108 call k [1,1,0,0,0,1,0,1,0,1,0,0,1,1,0,0,0] a H K = o108 0 call [1,1,0,0,0,1,0,1,0,1,0,0,1,1,0,0,0] 0 a H (K .normal) := at_region (by kernel_rfl)
theorem n108_33 : g108 call k [1,1,0,0,0,1,0,1,0,1,0,0,1,1,0,0,1] a H K = g108 call k [1,1,0,0,0,1,0,1,0,1,0,0,1,1,0,0,1,0] a H (hSeq (g108 call k [1,1,0,0,0,1,0,1,0,1,0,0,1,1,0,0,1,1]) K) := at_seq (by kernel_rfl)
theorem n108_34 : g108 call k [1,1,0,0,0,1,0,1,0,1,0,0,1,0,1] a H K = K (.exit 2) a H := at_exit (by kernel_rfl)
theorem n108_35 : g108 call k [1,1,0,0,0,1,0,1,0,1,0,0,1,1,0,0,1,0] a H K = o108 1 call [1,1,0,0,0,1,0,1,0,1,0,0,1,1,0,0,1,0] 0 a H (K .normal) := at_region (by kernel_rfl)
theorem n108_36 : g108 call k [1,1,0,0,0,1,0,1,1] a H K = g108 call k [1,1,0,0,0,1,0,1,1,0] a H (hSeq (g108 call k [1,1,0,0,0,1,0,1,1,1]) K) := at_seq (by kernel_rfl)
theorem n108_37 : g108 call k [1,1,0,0,0,1,0,1,1,0] a H K = o108 0 call [1,1,0,0,0,1,0,1,1,0] 0 a H (K .normal) := at_region (by kernel_rfl)
theorem n108_38 : g108 call k [1,1,0,0,0,1,0,1,1,1] a H K = g108 call k [1,1,0,0,0,1,0,1,1,1,0] a H (hSeq (g108 call k [1,1,0,0,0,1,0,1,1,1,1]) K) := at_seq (by kernel_rfl)
theorem n108_39 : g108 call k [1,1,0,0,0,1,0,1,1,1,0] a H K = o108 0 call [1,1,0,0,0,1,0,1,1,1,0] 0 a H (K .normal) := at_region (by kernel_rfl)
theorem n108_40 : g108 call k [1,1,0,0,0,1,0,1,1,1,1] a H K = g108 call k [1,1,0,0,0,1,0,1,1,1,1,0] a H (hSeq (g108 call k [1,1,0,0,0,1,0,1,1,1,1,1]) K) := at_seq (by kernel_rfl)
theorem n108_41 : g108 call k [1,1,0,0,0,1,0,1,1,1,1,0] a H K = o108 0 call [1,1,0,0,0,1,0,1,1,1,1,0] 0 a H (K .normal) := at_region (by kernel_rfl)
theorem n108_42 : g108 call k [1,1,0,0,0,1,0,1,1,1,1,1] a H K = g108 call k [1,1,0,0,0,1,0,1,1,1,1,1,0] a H (hSeq (g108 call k [1,1,0,0,0,1,0,1,1,1,1,1,1]) K) := at_seq (by kernel_rfl)
theorem n108_43 : g108 call k [1,1,0,0,0,1,0,1,0,1,0,0,1,1,0,0,1,1] a H K = onBool (asB (GA.eval a (.tmp 44))) (g108 call k [1,1,0,0,0,1,0,1,0,1,0,0,1,1,0,0,1,1,0] a H K) (g108 call k [1,1,0,0,0,1,0,1,0,1,0,0,1,1,0,0,1,1,1] a H K) := at_cond (by kernel_rfl)
theorem n108_44 : g108 call k [1,1,0,0,0,1,0,1,0,1,0,0,1,1,0,0,1,1,1] a H K = K .normal a H := at_skip (by kernel_rfl)
theorem n108_45 : g108 call k [1,1,0,0,0,1,0,1,1,1,1,1,0] a H K = o108 0 call [1,1,0,0,0,1,0,1,1,1,1,1,0] 0 a H (K .normal) := at_region (by kernel_rfl)
theorem n108_46 : g108 call k [1,1,0,0,0,1,0,1,1,1,1,1,1] a H K = g108 call k [1,1,0,0,0,1,0,1,1,1,1,1,1,0] a H (hSeq (g108 call k [1,1,0,0,0,1,0,1,1,1,1,1,1,1]) K) := at_seq (by kernel_rfl)
theorem n108_47 : g108 call k [1,1,0,0,0,1,0,1,0,1,0,0,1,1,1] a H K = o108 0 call [1,1,0,0,0,1,0,1,0,1,0,0,1,1,1] 0 a H (K .normal) := at_region (by kernel_rfl)
theorem n108_48 : g108 call k [1,1,0,0,0,1,0,1,1,1,1,1,1,0] a H K = o108 0 call [1,1,0,0,0,1,0,1,1,1,1,1,1,0] 0 a H (K .normal) := at_region (by kernel_rfl)
theorem n108_49 : g108 call k [1,1,0,0,0,1,0,1,1,1,1,1,1,1] a H K = onBool (asB (GA.eval a (.tmp 82))) (g108 call k [1,1,0,0,0,1,0,1,1,1,1,1,1,1,0] a H K) (g108 call k [1,1,0,0,0,1,0,1,1,1,1,1,1,1,1] a H K) := at_cond (by kernel_rfl)
theorem n108_50 : g108 call k [1,1,0,0,0,1,0,1,1,1,1,1,1,1,1] a H K = K .normal a H := at_skip (by kernel_rfl)
theorem n108_51 : g108 call k [1,1,0,0,0,1,0,1,0,1,0,0,1,1,0,0,1,1,0] a H K = o108 0 call [1,1,0,0,0,1,0,1,0,1,0,0,1,1,0,0,1,1,0] 0 a H (K .normal) := at_region (by kernel_rfl)
theorem n108_52 : g108 call k [1,1,0,0,0,1,0,1,1,1,1,1,1,1,0] a H K = o108 0 call [1,1,0,0,0,1,0,1,1,1,1,1,1,1,0] 0 a H (K .normal) := at_region (by kernel_rfl)
theorem s108_0 : o108 0 call [0] 0 (FG 95 (fun _ => undef) [(2, p2), (1, p1), (0, p0)]) H K' =
  K' (FG 95 (fun _ => undef) [(6, (.int .i64 0)), (2, p2), (1, p1), (0, p0)]) H := by kernel_rfl
theorem s108_1 : o108 0 call [1,0] 0 (FG 95 (fun _ => undef) [(6, (.int .i64 0)), (2, p2), (1, p1), (0, p0)]) H K' =
  K' (FG 95 (fun _ => undef) [(7, (.int .i64 0)), (6, (.int .i64 0)), (2, p2), (1, p1), (0, p0)]) H := by kernel_rfl
theorem s108_2 : o108 0 call [1,1,0,0,0,0,0] 0 (FF 95 d) H K' =
  onV ((oBin Try.prog .gtr 3 (d 2) (.int .i64 0)).filter closed) fun v1 =>
  K' (FG 95 d [(13, v1), (12, (d 2))]) H := by kernel_rfl
theorem s108_3 : o108 0 call [1,1,0,0,0,1,0,0] 0 (FG 95 d [(13, v1), (12, (d 2))]) H K' =
  K' (FG 95 d [(8, (.int .i64 (-1))), (13, v1), (12, (d 2))]) H := by kernel_rfl
theorem s108_4 : o108 0 call [1,1,0,0,0,1,0,1,0,0] 0 (FG 95 d [(8, (.int .i64 (-1))), (13, v1), (12, (d 2))]) H K' =
  onV (oNilCheck (d 0)) fun v2 =>
  onV (oFieldAddr Try.prog 88 v2 0) fun v3 =>
  onV (gLoad Try.prog 85 v3 H) fun v4 =>
  onV (oLen Try.prog 85 v4) fun v5 =>
  K' (FG 95 d [(19, (.int .i64 0)), (18, v5), (17, v4), (16, v3), (15, v2), (14, (d 0)), (8, (.int .i64 (-1))), (13, v1), (12, (d 2))]) H := by kernel_rfl
theorem s108_5 : o108 0 call [1,1,1,0] 0 (FG 95 d [(13, v1), (12, (d 2))]) H K' =
  K' (FG 95 d [(6, (d 7)), (94, (d 7)), (13, v1), (12, (d 2))]) H := by kernel_rfl
theorem s108_6 : o108 0 call [1,1,0,0,0,1,0,1,0,1,0,0,0] 0 (FF 95 d) H K' =
  onV ((oBin Try.prog .lss 3 (d 19) (d 18)).filter closed) fun v1 =>
  K' (FG 95 d [(20, v1)]) H := by kernel_rfl
theorem s108_7 : o108 0 call [1,1,0,0,0,1,0,1,0,1,0,0,1,1,0,0,0] 0 (FG 95 d [(20, v1)]) H K' =
  onV (oIndexAddr Try.prog 85 (d 17) (d 19)) fun v2 =>
  onV (gLoad Try.prog 93 v2 H) fun v3 =>
  onH (gStore Try.prog 93 (.pointer (some ⟨H.n, 0, none⟩)) v3 (GH.push H (.row [(.int .i64 0), (.int .i64 0)] 93 false))) fun H4 =>
  K' (FG 95 d [(9, (d 19)), (10, (.pointer (some ⟨H.n, 0, none⟩))), (23, v3), (22, v2), (21, (d 19)), (20, v1)]) H4 := by kernel_rfl
theorem s108_8 : t108 1 call [1,1,0,0,0,1,0,1,0,1,0,0,1,1,0,0,1,0] 0 5 (FF 95 d) H K' =
  onV (oFieldAddr Try.prog 93 (d 10) 0) fun v1 =>
  onV (gLoad Try.prog 3 v1 H) fun v2 =>
  onV ((oBin Try.prog .eql 3 v2 (d 1)).filter closed) fun v3 =>
  onGrd true v3 (K' (FG 95 d [(28, v3), (27, v3), (26, (d 1)), (25, v2), (24, v1)]) H) := by kernel_rfl
theorem s108_9 : o108 0 call [1,1,0,0,0,1,0,1,1,0] 0 (FF 95 d) H K' =
  onV (oNilCheck (d 0)) fun v1 =>
  onV (oFieldAddr Try.prog 88 v1 0) fun v2 =>
  onV (gLoad Try.prog 85 v2 H) fun v3 =>
  onV (oIndexAddr Try.prog 85 v3 (d 8)) fun v4 =>
  onV (oFieldAddr Try.prog 93 v4 1) fun v5 =>
  onV (gLoad Try.prog 3 v5 H) fun v6 =>
  onV ((oMinMax Try.prog false [(d 2), v6]).filter closed) fun v7 =>
  K' (FG 95 d [(11, v7), (56, v7), (55, v6), (54, v5), (53, v4), (52, (d 8)), (51, v3), (50, v2), (49, v1), (48, (d 0)), (47, (d 2))]) H := by kernel_rfl
theorem s108_10 : o108 0 call [1,1,0,0,0,1,0,1,1,1,0] 0 (FG 95 d [(11, v7), (56, v7), (55, v6), (54, v5), (53, v4), (52, (d 8)), (51, v3), (50, v2), (49, v1), (48, (d 0)), (47, (d 2))]) H K' =
  onV ((oBin Try.prog .sub 3 (d 2) v7).filter closed) fun v8 =>
  K' (FG 95 d [(2, v8), (59, v8), (58, v7), (57, (d 2)), (11, v7), (56, v7), (55, v6), (54, v5), (53, v4), (52, (d 8)), (51, v3), (50, v2), (49, v1), (48, (d 0)), (47, (d 2))]) H := by kernel_rfl
theorem s108_11 : o108 0 call [1,1,0,0,0,1,0,1,1,1,1,0] 0 (FG 95 d [(2, v8), (59, v8), (58, v7), (57, (d 2)), (11, v7), (56, v7), (55, v6), (54, v5), (53, v4), (52, (d 8)), (51, v3), (50, v2), (49, v1), (48, (d 0)), (47, (d 2))]) H K' =
  onV ((oBin Try.prog .add 3 (d 7) (.int .i64 1)).filter closed) fun v9 =>
  K' (FG 95 d [(7, v9), (61, v9), (60, (d 7)), (2, v8), (59, v8), (58, v7), (57, (d 2)), (11, v7), (56, v7), (55, v6), (54, v5), (53, v4), (52, (d 8)), (51, v3), (50, v2), (49, v1), (48, (d 0)), (47, (d 2))]) H := by kernel_rfl
theorem s108_12 : t108 1 call [1,1,0,0,0,1,0,1,0,1,0,0,1,1,0,0,1,0] 5 3 (FG 95 d [(28, (.bool true))]) H K' =
  onV ((oBin Try.prog .lss 3 (d 8) (.int .i64 0)).filter closed) fun v1 =>
  onGrd true v1 (K' (FG 95 d [(31, v1), (30, v1), (29, (d 8)), (28, (.bool true))]) H) := by kernel_rfl
theorem s108_13 : o108 1 call [1,1,0,0,0,1,0,1,0,1,0,0,1,1,0,0,1,0] 5 (FG 95 d [(28, (.bool false))]) H K' =
  K' (FG 95 d [(44, (.bool false)), (43, undef), (42, undef), (41, undef), (40, undef), (39, undef), (38, undef), (37, undef), (36, undef), (35, undef), (34, undef), (33, undef), (32, undef), (31, undef), (30, undef), (29, undef), (28, (.bool false))]) H := by kernel_rfl
theorem s108_14 : o108 0 call [1,1,0,0,0,1,0,1,1,1,1,1,0] 0 (FF 95 d) H K' =
  onV (oNilCheck (d 0)) fun v1 =>
  onV (oFieldAddr Try.prog 88 v1 0) fun v2 =>
  onV (gLoad Try.prog 85 v2 H) fun v3 =>
  onV (oIndexAddr Try.prog 85 v3 (d 8)) fun v4 =>
  onV (oFieldAddr Try.prog 93 v4 1) fun v5 =>
  onV (gLoad Try.prog 3 v5 H) fun v6 =>
  onV ((oBin Try.prog .sub 3 v6 (d 11)).filter closed) fun v7 =>
  onV (oIndexAddr Try.prog 85 v3 (d 8)) fun v8 =>
  onV (oFieldAddr Try.prog 93 v8 1) fun v9 =>
  onH (gStore Try.prog 3 v9 v7 H) fun H10 =>
  K' (FG 95 d [(73, v9), (72, v8), (71, v7), (70, (d 11)), (69, v6), (68, v5), (67, v4), (66, (d 8)), (65, v3), (64, v2), (63, v1), (62, (d 0))]) H10 := by kernel_rfl
theorem s108_15 : o108 1 call [1,1,0,0,0,1,0,1,0,1,0,0,1,1,0,0,1,0] 8 (FG 95 d [(31, (.bool true)), (28, (.bool true))]) H K' =
  K' (FG 95 d [(44, (.bool true)), (43, (.bool true)), (42, undef), (41, undef), (40, undef), (39, undef), (38, undef), (37, undef), (36, undef), (35, undef), (34, undef), (33, undef), (32, undef), (31, (.bool true)), (28, (.bool true))]) H := by kernel_rfl
theorem s108_16 : o108 1 call [1,1,0,0,0,1,0,1,0,1,0,0,1,1,0,0,1,0] 8 (FG 95 d [(31, (.bool false)), (28, (.bool true))]) H K' =
  onV (oFieldAddr Try.prog 93 (d 10) 1) fun v1 =>
  onV (gLoad Try.prog 3 v1 H) fun v2 =>
  onV (oNilCheck (d 0)) fun v3 =>
  onV (oFieldAddr Try.prog 88 v3 0) fun v4 =>
  onV (gLoad Try.prog 85 v4 H) fun v5 =>
  onV (oIndexAddr Try.prog 85 v5 (d 8)) fun v6 =>
  onV (oFieldAddr Try.prog 93 v6 1) fun v7 =>
  onV (gLoad Try.prog 3 v7 H) fun v8 =>
  onV ((oBin Try.prog .lss 3 v2 v8).filter closed) fun v9 =>
  K' (FG 95 d [(44, v9), (43, v9), (42, v9), (41, v8), (40, v7), (39, v6), (38, (d 8)), (37, v5), (36, v4), (35, v3), (34, (d 0)), (33, v2), (32, v1), (31, (.bool false)), (28, (.bool true))]) H := by kernel_rfl
theorem s108_17 : o108 0 call [1,1,0,0,0,1,0,1,0,1,0,0,1,1,1] 0 (FF 95 d) H K' =
  onV ((oBin Try.prog .add 3 (d 19) (.int .i64 1)).filter closed) fun v1 =>
  K' (FG 95 d [(19, v1), (46, v1)]) H := by kernel_rfl
theorem s108_18 : o108 0 call [1,1,0,0,0,1,0,1,1,1,1,1,1,0] 0 (FF 95 d) H K' =
  onV (oNilCheck (d 0)) fun v1 =>
  onV (oFieldAddr Try.prog 88 v1 0) fun v2 =>
  onV (gLoad Try.prog 85 v2 H) fun v3 =>
  onV (oIndexAddr Try.prog 85 v3 (d 8)) fun v4 =>
  onV (oFieldAddr Try.prog 93 v4 1) fun v5 =>
  onV (gLoad Try.prog 3 v5 H) fun v6 =>
  onV ((oBin Try.prog .eql 3 v6 (.int .i64 0)).filter closed) fun v7 =>
  K' (FG 95 d [(82, v7), (81, v6), (80, v5), (79, v4), (78, (d 8)), (77, v3), (76, v2), (75, v1), (74, (d 0))]) H := by kernel_rfl
theorem s108_19 : o108 0 call [1,1,0,0,0,1,0,1,0,1,0,0,1,1,0,0,1,1,0] 0 (FF 95 d) H K' =
  K' (FG 95 d [(8, (d 9)), (45, (d 9))]) H := by kernel_rfl
theorem s108_20 : o108 0 call [1,1,0,0,0,1,0,1,0,1,0,0,1,1,1] 0 (FG 95 d [(8, (d 9)), (45, (d 9))]) H K' =
  onV ((oBin Try.prog .add 3 (d 19) (.int .i64 1)).filter closed) fun v1 =>
  K' (FG 95 d [(19, v1), (46, v1), (8, (d 9)), (45, (d 9))]) H := by kernel_rfl
theorem s108_21 : o108 0 call [1,1,0,0,0,1,0,1,1,1,1,1,1,1,0] 0 (FF 95 d) H K' =
  onV (oNilCheck (d 0)) fun v1 =>
  onV (oFieldAddr Try.prog 88 v1 0) fun v2 =>
  onV (gLoad Try.prog 85 v2 H) fun v3 =>
  onV ((oBin Try.prog .add 3 (d 8) (.int .i64 1)).filter closed) fun v4 =>
  onCall 0 call (.func (.func 162) #[] #[]) [v3, (d 8), v4] H fun v5 H6 =>
  onV (oNilCheck (d 0)) fun v7 =>
  onV (oFieldAddr Try.prog 88 v7 0) fun v8 =>
  onH (gStore Try.prog 85 v8 v5 H6) fun H9 =>
  K' (FG 95 d [(93, v8), (92, v7), (91, v5), (90, v4), (89, (d 8)), (88, (d 8)), (87, v3), (86, v2), (85, v1), (84, (d 0)), (83, (d 0))]) H9 := by kernel_rfl
def f108_l5_P (ag : AG) (sg : Sg8) : Prop := ∀ (d : Nat → Value) (H : GH), ag (FF 95 d) H = sg (d 0) (d 1) (d 2) (d 7) (d 8) (d 17) (d 18) (d 19) H
theorem f108_l5_at {ag : AG} {sg : Sg8} (h : f108_l5_P ag sg) : ag (FF 95 d) H = sg (d 0) (d 1) (d 2) (d 7) (d 8) (d 17) (d 18) (d 19) H := h d H
def f108_l2_P (ag : AG) (sg : Sg4) : Prop := ∀ (d : Nat → Value) (H : GH), ag (FF 95 d) H = sg (d 0) (d 1) (d 2) (d 7) H
theorem f108_l2_at {ag : AG} {sg : Sg4} (h : f108_l2_P ag sg) : ag (FF 95 d) H = sg (d 0) (d 1) (d 2) (d 7) H := h d H
noncomputable def f108_r9 (call : Handle) (k : Nat) (sg_l2 : Sg4) (sg_l5 : Sg8) (x0 x1 x2 x7 x8 x17 x18 x19 : Value) (H : GH) : M (Value × GH) :=
  onV ((oBin Try.prog .add 3 x19 (.int .i64 1)).filter closed) fun v1 =>
  (sg_l5 x0 x1 x2 x7 x8 x17 x18 v1 H)
theorem f108_r9_eq (call : Handle) (k : Nat) (ag_l2 : AG) (sg_l2 : Sg4) (h_l2 : f108_l2_P ag_l2 sg_l2) (ag_l5 : AG) (sg_l5 : Sg8) (h_l5 : f108_l5_P ag_l5 sg_l5) : g108 call k [1,1,0,0,0,1,0,1,0,1,0,0,1,1,1] (FF 95 d) H (hLoop ag_l5 (hBlock 2 (hSeq (g108 call k [1,1,0,0,0,1,0,1,1]) (hBlock 1 (hLoop ag_l2 (hBlock 0 (hSeq (g108 call k [1,1,1]) (hFin Try.prog Try.f108)))))))) = f108_r9 call k sg_l2 sg_l5 (d 0) (d 1) (d 2) (d 7) (d 8) (d 17) (d 18) (d 19) H := by
  unfold f108_r9
  rw [n108_47]
  rw [s108_17]
  refine onV_c fun v1 => ?_
  rw [hLoop_n]
  generalize e : (FG 95 d [(19, v1), (46, v1)]) = a
  rw [show a = (FF 95 (gf a)) from (FF_gf (by subst e; exact FG_len)).symm]
  exact (f108_l5_at (d := gf a) h_l5).trans (by subst e; kernel_rfl)
noncomputable def f108_r8 (call : Handle) (k : Nat) (sg_l2 : Sg4) (sg_l5 : Sg8) (x0 x1 x2 x7 x9 x17 x18 x19 : Value) (H : GH) : M (Value × GH) :=
  onV ((oBin Try.prog .add 3 x19 (.int .i64 1)).filter closed) fun v1 =>
  (sg_l5 x0 x1 x2 x7 x9 x17 x18 v1 H)
theorem f108_r8_eq (call : Handle) (k : Nat) (ag_l2 : AG) (sg_l2 : Sg4) (h_l2 : f108_l2_P ag_l2 sg_l2) (ag_l5 : AG) (sg_l5 : Sg8) (h_l5 : f108_l5_P ag_l5 sg_l5) : g108 call k [1,1,0,0,0,1,0,1,0,1,0,0,1,1,0,0,1,1,0] (FF 95 d) H (hBlock 3 (hSeq (g108 call k [1,1,0,0,0,1,0,1,0,1,0,0,1,1,1]) (hLoop ag_l5 (hBlock 2 (hSeq (g108 call k [1,1,0,0,0,1,0,1,1]) (hBlock 1 (hLoop ag_l2 (hBlock 0 (hSeq (g108 call k [1,1,1]) (hFin Try.prog Try.f108)))))))))) = f108_r8 call k sg_l2 sg_l5 (d 0) (d 1) (d 2) (d 7) (d 9) (d 17) (d 18) (d 19) H := by
  unfold f108_r8
  rw [n108_51]
  rw [s108_19]
  rw [hBlock_n]
  rw [hSeq_n]
  rw [n108_47]
  rw [s108_20]
  refine onV_c fun v1 => ?_
  rw [hLoop_n]
  generalize e : (FG 95 d [(19, v1), (46, v1), (8, (d 9)), (45, (d 9))]) = a
  rw [show a = (FF 95 (gf a)) from (FF_gf (by subst e; exact FG_len)).symm]
  exact (f108_l5_at (d := gf a) h_l5).trans (by subst e; kernel_rfl)
noncomputable def f108_g7_8 (call : Handle) (k : Nat) (sg_l2 : Sg4) (sg_l5 : Sg8) (x31 : Value) (x0 x1 x2 x7 x8 x9 x10 x17 x18 x19 : Value) (H : GH) : M (Value × GH) :=
 onBool (asB x31)
  ((f108_r8 call k (sg_l2) (sg_l5) x0 x1 x2 x7 x9 x17 x18 x19 H))
  (onV (oFieldAddr Try.prog 93 x10 1) fun v1 =>
  onV (gLoad Try.prog 3 v1 H) fun v2 =>
  onV (oNilCheck x0) fun v3 =>
  onV (oFieldAddr Try.prog 88 v3 0) fun v4 =>
  onV (gLoad Try.prog 85 v4 H) fun v5 =>
  onV (oIndexAddr Try.prog 85 v5 x8) fun v6 =>
  onV (oFieldAddr Try.prog 93 v6 1) fun v7 =>
  onV (gLoad Try.prog 3 v7 H) fun v8 =>
  onV ((oBin Try.prog .lss 3 v2 v8).filter closed) fun v9 =>
  onBool (asB v9)
  ((f108_r8 call k (sg_l2) (sg_l5) x0 x1 x2 x7 x9 x17 x18 x19 H))
  ((f108_r9 call k (sg_l2) (sg_l5) x0 x1 x2 x7 x8 x17 x18 x19 H)))
theorem f108_g7_8_true (call : Handle) (k : Nat) (ag_l2 : AG) (sg_l2 : Sg4) (h_l2 : f108_l2_P ag_l2 sg_l2) (ag_l5 : AG) (sg_l5 : Sg8) (h_l5 : f108_l5_P ag_l5 sg_l5) : o108 1 call [1,1,0,0,0,1,0,1,0,1,0,0,1,1,0,0,1,0] 8 (FG 95 d [(31, (.bool true)), (28, (.bool true))]) H ((hSeq (g108 call k [1,1,0,0,0,1,0,1,0,1,0,0,1,1,0,0,1,1]) (hBlock 3 (hSeq (g108 call k [1,1,0,0,0,1,0,1,0,1,0,0,1,1,1]) (hLoop ag_l5 (hBlock 2 (hSeq (g108 call k [1,1,0,0,0,1,0,1,1]) (hBlock 1 (hLoop ag_l2 (hBlock 0 (hSeq (g108 call k [1,1,1]) (hFin Try.prog Try.f108))))))))))) .normal) =
  (f108_r8 call k (sg_l2) (sg_l5) (d 0) (d 1) (d 2) (d 7) (d 9) (d 17) (d 18) (d 19) H) := by
  rw [s108_15]
  rw [hSeq_n]
  rw [n108_43]
  refine (onBool_tt (by kernel_rfl)).trans ?_
  generalize e : (FG 95 d [(44, (.bool true)), (43, (.bool true)), (42, undef), (41, undef), (40, undef), (39, undef), (38, undef), (37, undef), (36, undef), (35, undef), (34, undef), (33, undef), (32, undef), (31, (.bool true)), (28, (.bool true))]) = a
  rw [show a = (FF 95 (gf a)) from (FF_gf (by subst e; exact FG_len)).symm]
  exact (f108_r8_eq (d := gf a) call k ag_l2 sg_l2 h_l2 ag_l5 sg_l5 h_l5).trans (by subst e; kernel_rfl)
theorem f108_g7_8_false (call : Handle) (k : Nat) (ag_l2 : AG) (sg_l2 : Sg4) (h_l2 : f108_l2_P ag_l2 sg_l2) (ag_l5 : AG) (sg_l5 : Sg8) (h_l5 : f108_l5_P ag_l5 sg_l5) : o108 1 call [1,1,0,0,0,1,0,1,0,1,0,0,1,1,0,0,1,0] 8 (FG 95 d [(31, (.bool false)), (28, (.bool true))]) H ((hSeq (g108 call k [1,1,0,0,0,1,0,1,0,1,0,0,1,1,0,0,1,1]) (hBlock 3 (hSeq (g108 call k [1,1,0,0,0,1,0,1,0,1,0,0,1,1,1]) (hLoop ag_l5 (hBlock 2 (hSeq (g108 call k [1,1,0,0,0,1,0,1,1]) (hBlock 1 (hLoop ag_l2 (hBlock 0 (hSeq (g108 call k [1,1,1]) (hFin Try.prog Try.f108))))))))))) .normal) =
  onV (oFieldAddr Try.prog 93 (d 10) 1) fun v1 =>
  onV (gLoad Try.prog 3 v1 H) fun v2 =>
  onV (oNilCheck (d 0)) fun v3 =>
  onV (oFieldAddr Try.prog 88 v3 0) fun v4 =>
  onV (gLoad Try.prog 85 v4 H) fun v5 =>
  onV (oIndexAddr Try.prog 85 v5 (d 8)) fun v6 =>
  onV (oFieldAddr Try.prog 93 v6 1) fun v7 =>
  onV (gLoad Try.prog 3 v7 H) fun v8 =>
  onV ((oBin Try.prog .lss 3 v2 v8).filter closed) fun v9 =>
  onBool (asB v9)
  ((f108_r8 call k (sg_l2) (sg_l5) (d 0) (d 1) (d 2) (d 7) (d 9) (d 17) (d 18) (d 19) H))
  ((f108_r9 call k (sg_l2) (sg_l5) (d 0) (d 1) (d 2) (d 7) (d 8) (d 17) (d 18) (d 19) H)) := by
  rw [s108_16]
  refine onV_c fun v1 => ?_
  refine onV_c fun v2 => ?_
  refine onV_c fun v3 => ?_
  refine onV_c fun v4 => ?_
  refine onV_c fun v5 => ?_
  refine onV_c fun v6 => ?_
  refine onV_c fun v7 => ?_
  refine onV_c fun v8 => ?_
  refine onV_c fun v9 => ?_
  rw [hSeq_n]
  rw [n108_43]
  refine onBool_cc (by kernel_rfl) ?_ ?_
  · generalize e : (FG 95 d [(44, v9), (43, v9), (42, v9), (41, v8), (40, v7), (39, v6), (38, (d 8)), (37, v5), (36, v4), (35, v3), (34, (d 0)), (33, v2), (32, v1), (31, (.bool false)), (28, (.bool true))]) = a
    rw [show a = (FF 95 (gf a)) from (FF_gf (by subst e; exact FG_len)).symm]
    exact (f108_r8_eq (d := gf a) call k ag_l2 sg_l2 h_l2 ag_l5 sg_l5 h_l5).trans (by subst e; kernel_rfl)
  · rw [n108_44]
    rw [hBlock_n]
    rw [hSeq_n]
    generalize e : (FG 95 d [(44, v9), (43, v9), (42, v9), (41, v8), (40, v7), (39, v6), (38, (d 8)), (37, v5), (36, v4), (35, v3), (34, (d 0)), (33, v2), (32, v1), (31, (.bool false)), (28, (.bool true))]) = a
    rw [show a = (FF 95 (gf a)) from (FF_gf (by subst e; exact FG_len)).symm]
    exact (f108_r9_eq (d := gf a) call k ag_l2 sg_l2 h_l2 ag_l5 sg_l5 h_l5).trans (by subst e; kernel_rfl)
theorem f108_g7_8_eq (call : Handle) (k : Nat) (ag_l2 : AG) (sg_l2 : Sg4) (h_l2 : f108_l2_P ag_l2 sg_l2) (ag_l5 : AG) (sg_l5 : Sg8) (h_l5 : f108_l5_P ag_l5 sg_l5) : onGrd true xg (o108 1 call [1,1,0,0,0,1,0,1,0,1,0,0,1,1,0,0,1,0] 8 (FG 95 d [(31, xg), (28, (.bool true))]) H ((hSeq (g108 call k [1,1,0,0,0,1,0,1,0,1,0,0,1,1,0,0,1,1]) (hBlock 3 (hSeq (g108 call k [1,1,0,0,0,1,0,1,0,1,0,0,1,1,1]) (hLoop ag_l5 (hBlock 2 (hSeq (g108 call k [1,1,0,0,0,1,0,1,1]) (hBlock 1 (hLoop ag_l2 (hBlock 0 (hSeq (g108 call k [1,1,1]) (hFin Try.prog Try.f108))))))))))) .normal)) =
  f108_g7_8 call k sg_l2 sg_l5 xg (d 0) (d 1) (d 2) (d 7) (d 8) (d 9) (d 10) (d 17) (d 18) (d 19) H := by
  cases xg with
  | bool b => cases b with
    | true => exact onGrd_b.trans (f108_g7_8_true call k ag_l2 sg_l2 h_l2 ag_l5 sg_l5 h_l5)
    | false => exact onGrd_b.trans (f108_g7_8_false call k ag_l2 sg_l2 h_l2 ag_l5 sg_l5 h_l5)
  | _ => kernel_rfl
noncomputable def f108_g7_5 (call : Handle) (k : Nat) (sg_l2 : Sg4) (sg_l5 : Sg8) (x28 : Value) (x0 x1 x2 x7 x8 x9 x10 x17 x18 x19 : Value) (H : GH) : M (Value × GH) :=
 onBool (asB x28)
  (onV ((oBin Try.prog .lss 3 x8 (.int .i64 0)).filter closed) fun v1 =>
  (f108_g7_8 call k (sg_l2) (sg_l5) v1 x0 x1 x2 x7 x8 x9 x10 x17 x18 x19 H))
  ((f108_r9 call k (sg_l2) (sg_l5) x0 x1 x2 x7 x8 x17 x18 x19 H))
theorem f108_g7_5_true (call : Handle) (k : Nat) (ag_l2 : AG) (sg_l2 : Sg4) (h_l2 : f108_l2_P ag_l2 sg_l2) (ag_l5 : AG) (sg_l5 : Sg8) (h_l5 : f108_l5_P ag_l5 sg_l5) : o108 1 call [1,1,0,0,0,1,0,1,0,1,0,0,1,1,0,0,1,0] 5 (FG 95 d [(28, (.bool true))]) H ((hSeq (g108 call k [1,1,0,0,0,1,0,1,0,1,0,0,1,1,0,0,1,1]) (hBlock 3 (hSeq (g108 call k [1,1,0,0,0,1,0,1,0,1,0,0,1,1,1]) (hLoop ag_l5 (hBlock 2 (hSeq (g108 call k [1,1,0,0,0,1,0,1,1]) (hBlock 1 (hLoop ag_l2 (hBlock 0 (hSeq (g108 call k [1,1,1]) (hFin Try.prog Try.f108))))))))))) .normal) =
  onV ((oBin Try.prog .lss 3 (d 8) (.int .i64 0)).filter closed) fun v1 =>
  (f108_g7_8 call k (sg_l2) (sg_l5) v1 (d 0) (d 1) (d 2) (d 7) (d 8) (d 9) (d 10) (d 17) (d 18) (d 19) H) := by
  rw [o108_s 5 3, s108_12]
  refine onV_c fun v1 => ?_
  generalize e : (FG 95 d [(31, v1), (30, v1), (29, (d 8)), (28, (.bool true))]) = a
  rw [show a = (FG 95 (gf a) [(31, v1), (28, (.bool true))]) from (FG_eq (by subst e; exact FG_len) (FS_cons (by subst e; kernel_rfl) (FS_cons (by subst e; kernel_rfl) (FS_nil)))).symm]
  exact (f108_g7_8_eq (d := gf a) call k ag_l2 sg_l2 h_l2 ag_l5 sg_l5 h_l5).trans (by subst e; kernel_rfl)
theorem f108_g7_5_false (call : Handle) (k : Nat) (ag_l2 : AG) (sg_l2 : Sg4) (h_l2 : f108_l2_P ag_l2 sg_l2) (ag_l5 : AG) (sg_l5 : Sg8) (h_l5 : f108_l5_P ag_l5 sg_l5) : o108 1 call [1,1,0,0,0,1,0,1,0,1,0,0,1,1,0,0,1,0] 5 (FG 95 d [(28, (.bool false))]) H ((hSeq (g108 call k [1,1,0,0,0,1,0,1,0,1,0,0,1,1,0,0,1,1]) (hBlock 3 (hSeq (g108 call k [1,1,0,0,0,1,0,1,0,1,0,0,1,1,1]) (hLoop ag_l5 (hBlock 2 (hSeq (g108 call k [1,1,0,0,0,1,0,1,1]) (hBlock 1 (hLoop ag_l2 (hBlock 0 (hSeq (g108 call k [1,1,1]) (hFin Try.prog Try.f108))))))))))) .normal) =
  (f108_r9 call k (sg_l2) (sg_l5) (d 0) (d 1) (d 2) (d 7) (d 8) (d 17) (d 18) (d 19) H) := by
  rw [s108_13]
  rw [hSeq_n]
  rw [n108_43]
  refine (onBool_ff (by kernel_rfl)).trans ?_
  rw [n108_44]
  rw [hBlock_n]
  rw [hSeq_n]
  generalize e : (FG 95 d [(44, (.bool false)), (43, undef), (42, undef), (41, undef), (40, undef), (39, undef), (38, undef), (37, undef), (36, undef), (35, undef), (34, undef), (33, undef), (32, undef), (31, undef), (30, undef), (29, undef), (28, (.bool false))]) = a
  rw [show a = (FF 95 (gf a)) from (FF_gf (by subst e; exact FG_len)).symm]
  exact (f108_r9_eq (d := gf a) call k ag_l2 sg_l2 h_l2 ag_l5 sg_l5 h_l5).trans (by subst e; kernel_rfl)
theorem f108_g7_5_eq (call : Handle) (k : Nat) (ag_l2 : AG) (sg_l2 : Sg4) (h_l2 : f108_l2_P ag_l2 sg_l2) (ag_l5 : AG) (sg_l5 : Sg8) (h_l5 : f108_l5_P ag_l5 sg_l5) : onGrd true xg (o108 1 call [1,1,0,0,0,1,0,1,0,1,0,0,1,1,0,0,1,0] 5 (FG 95 d [(28, xg)]) H ((hSeq (g108 call k [1,1,0,0,0,1,0,1,0,1,0,0,1,1,0,0,1,1]) (hBlock 3 (hSeq (g108 call k [1,1,0,0,0,1,0,1,0,1,0,0,1,1,1]) (hLoop ag_l5 (hBlock 2 (hSeq (g108 call k [1,1,0,0,0,1,0,1,1]) (hBlock 1 (hLoop ag_l2 (hBlock 0 (hSeq (g108 call k [1,1,1]) (hFin Try.prog Try.f108))))))))))) .normal)) =
  f108_g7_5 call k sg_l2 sg_l5 xg (d 0) (d 1) (d 2) (d 7) (d 8) (d 9) (d 10) (d 17) (d 18) (d 19) H := by
  cases xg with
  | bool b => cases b with
    | true => exact onGrd_b.trans (f108_g7_5_true call k ag_l2 sg_l2 h_l2 ag_l5 sg_l5 h_l5)
    | false => exact onGrd_b.trans (f108_g7_5_false call k ag_l2 sg_l2 h_l2 ag_l5 sg_l5 h_l5)
  | _ => kernel_rfl
noncomputable def f108_r7 (call : Handle) (k : Nat) (sg_l2 : Sg4) (sg_l5 : Sg8) (x0 x1 x2 x7 x8 x9 x10 x17 x18 x19 : Value) (H : GH) : M (Value × GH) :=
  onV (oFieldAddr Try.prog 93 x10 0) fun v1 =>
  onV (gLoad Try.prog 3 v1 H) fun v2 =>
  onV ((oBin Try.prog .eql 3 v2 x1).filter closed) fun v3 =>
  (f108_g7_5 call k (sg_l2) (sg_l5) v3 x0 x1 x2 x7 x8 x9 x10 x17 x18 x19 H)
theorem f108_r7_eq (call : Handle) (k : Nat) (ag_l2 : AG) (sg_l2 : Sg4) (h_l2 : f108_l2_P ag_l2 sg_l2) (ag_l5 : AG) (sg_l5 : Sg8) (h_l5 : f108_l5_P ag_l5 sg_l5) : g108 call k [1,1,0,0,0,1,0,1,0,1,0,0,1,1,0,0,1,0] (FF 95 d) H (hSeq (g108 call k [1,1,0,0,0,1,0,1,0,1,0,0,1,1,0,0,1,1]) (hBlock 3 (hSeq (g108 call k [1,1,0,0,0,1,0,1,0,1,0,0,1,1,1]) (hLoop ag_l5 (hBlock 2 (hSeq (g108 call k [1,1,0,0,0,1,0,1,1]) (hBlock 1 (hLoop ag_l2 (hBlock 0 (hSeq (g108 call k [1,1,1]) (hFin Try.prog Try.f108))))))))))) = f108_r7 call k sg_l2 sg_l5 (d 0) (d 1) (d 2) (d 7) (d 8) (d 9) (d 10) (d 17) (d 18) (d 19) H := by
  unfold f108_r7
  rw [n108_35]
  rw [o108_s 0 5, s108_8]
  refine onV_c fun v1 => ?_
  refine onV_c fun v2 => ?_
  refine onV_c fun v3 => ?_
  generalize e : (FG 95 d [(28, v3), (27, v3), (26, (d 1)), (25, v2), (24, v1)]) = a
  rw [show a = (FG 95 (gf a) [(28, v3)]) from (FG_eq (by subst e; exact FG_len) (FS_cons (by subst e; kernel_rfl) (FS_nil))).symm]
  exact (f108_g7_5_eq (d := gf a) call k ag_l2 sg_l2 h_l2 ag_l5 sg_l5 h_l5).trans (by subst e; kernel_rfl)
noncomputable def f108_r15 (call : Handle) (k : Nat) (sg_l2 : Sg4) (x0 x1 x2 x7 x8 : Value) (H : GH) : M (Value × GH) :=
  onV (oNilCheck x0) fun v1 =>
  onV (oFieldAddr Try.prog 88 v1 0) fun v2 =>
  onV (gLoad Try.prog 85 v2 H) fun v3 =>
  onV ((oBin Try.prog .add 3 x8 (.int .i64 1)).filter closed) fun v4 =>
  onCall 0 call (.func (.func 162) #[] #[]) [v3, x8, v4] H fun v5 H6 =>
  onV (oNilCheck x0) fun v7 =>
  onV (oFieldAddr Try.prog 88 v7 0) fun v8 =>
  onH (gStore Try.prog 85 v8 v5 H6) fun H9 =>
  (sg_l2 x0 x1 x2 x7 H9)
theorem f108_r15_eq (call : Handle) (k : Nat) (ag_l2 : AG) (sg_l2 : Sg4) (h_l2 : f108_l2_P ag_l2 sg_l2) : g108 call k [1,1,0,0,0,1,0,1,1,1,1,1,1,1,0] (FF 95 d) H (hBlock 1 (hLoop ag_l2 (hBlock 0 (hSeq (g108 call k [1,1,1]) (hFin Try.prog Try.f108))))) = f108_r15 call k sg_l2 (d 0) (d 1) (d 2) (d 7) (d 8) H := by
  unfold f108_r15
  rw [n108_52]
  rw [s108_21]
  refine onV_c fun v1 => ?_
  refine onV_c fun v2 => ?_
  refine onV_c fun v3 => ?_
  refine onV_c fun v4 => ?_
  refine onCall_c fun v5 H6 => ?_
  refine onV_c fun v7 => ?_
  refine onV_c fun v8 => ?_
  refine onH_c fun H9 => ?_
  rw [hBlock_n]
  rw [hLoop_n]
  generalize e : (FG 95 d [(93, v8), (92, v7), (91, v5), (90, v4), (89, (d 8)), (88, (d 8)), (87, v3), (86, v2), (85, v1), (84, (d 0)), (83, (d 0))]) = a
  rw [show a = (FF 95 (gf a)) from (FF_gf (by subst e; exact FG_len)).symm]
  exact (f108_l2_at (d := gf a) h_l2).trans (by subst e; kernel_rfl)
noncomputable def f108_r14 (call : Handle) (k : Nat) (sg_l2 : Sg4) (x0 x1 x2 x7 x8 : Value) (H : GH) : M (Value × GH) :=
  onV (oNilCheck x0) fun v1 =>
  onV (oFieldAddr Try.prog 88 v1 0) fun v2 =>
  onV (gLoad Try.prog 85 v2 H) fun v3 =>
  onV (oIndexAddr Try.prog 85 v3 x8) fun v4 =>
  onV (oFieldAddr Try.prog 93 v4 1) fun v5 =>
  onV (gLoad Try.prog 3 v5 H) fun v6 =>
  onV ((oBin Try.prog .eql 3 v6 (.int .i64 0)).filter closed) fun v7 =>
  onBool (asB v7)
  ((f108_r15 call k (sg_l2) x0 x1 x2 x7 x8 H))
  ((sg_l2 x0 x1 x2 x7 H))
theorem f108_r14_eq (call : Handle) (k : Nat) (ag_l2 : AG) (sg_l2 : Sg4) (h_l2 : f108_l2_P ag_l2 sg_l2) : g108 call k [1,1,0,0,0,1,0,1,1,1,1,1,1,0] (FF 95 d) H (hSeq (g108 call k [1,1,0,0,0,1,0,1,1,1,1,1,1,1]) (hBlock 1 (hLoop ag_l2 (hBlock 0 (hSeq (g108 call k [1,1,1]) (hFin Try.prog Try.f108)))))) = f108_r14 call k sg_l2 (d 0) (d 1) (d 2) (d 7) (d 8) H := by
  unfold f108_r14
  rw [n108_48]
  rw [s108_18]
  refine onV_c fun v1 => ?_
  refine onV_c fun v2 => ?_
  refine onV_c fun v3 => ?_
  refine onV_c fun v4 => ?_
  refine onV_c fun v5 => ?_
  refine onV_c fun v6 => ?_
  refine onV_c fun v7 => ?_
  rw [hSeq_n]
  rw [n108_49]
  refine onBool_cc (by kernel_rfl) ?_ ?_
  · generalize e : (FG 95 d [(82, v7), (81, v6), (80, v5), (79, v4), (78, (d 8)), (77, v3), (76, v2), (75, v1), (74, (d 0))]) = a
    rw [show a = (FF 95 (gf a)) from (FF_gf (by subst e; exact FG_len)).symm]
    exact (f108_r15_eq (d := gf a) call k ag_l2 sg_l2 h_l2).trans (by subst e; kernel_rfl)
  · rw [n108_50]
    rw [hBlock_n]
    rw [hLoop_n]
    generalize e : (FG 95 d [(82, v7), (81, v6), (80, v5), (79, v4), (78, (d 8)), (77, v3), (76, v2), (75, v1), (74, (d 0))]) = a
    rw [show a = (FF 95 (gf a)) from (FF_gf (by subst e; exact FG_len)).symm]
    exact (f108_l2_at (d := gf a) h_l2).trans (by subst e; kernel_rfl)
noncomputable def f108_r13 (call : Handle) (k : Nat) (sg_l2 : Sg4) (x0 x1 x2 x7 x8 x11 : Value) (H : GH) : M (Value × GH) :=
  onV (oNilCheck x0) fun v1 =>
  onV (oFieldAddr Try.prog 88 v1 0) fun v2 =>
  onV (gLoad Try.prog 85 v2 H) fun v3 =>
  onV (oIndexAddr Try.prog 85 v3 x8) fun v4 =>
  onV (oFieldAddr Try.prog 93 v4 1) fun v5 =>
  onV (gLoad Try.prog 3 v5 H) fun v6 =>
  onV ((oBin Try.prog .sub 3 v6 x11).filter closed) fun v7 =>
  onV (oIndexAddr Try.prog 85 v3 x8) fun v8 =>
  onV (oFieldAddr Try.prog 93 v8 1) fun v9 =>
  onH (gStore Try.prog 3 v9 v7 H) fun H10 =>
  (f108_r14 call k (sg_l2) x0 x1 x2 x7 x8 H10)
theorem f108_r13_eq (call : Handle) (k : Nat) (ag_l2 : AG) (sg_l2 : Sg4) (h_l2 : f108_l2_P ag_l2 sg_l2) : g108 call k [1,1,0,0,0,1,0,1,1,1,1,1,0] (FF 95 d) H (hSeq (g108 call k [1,1,0,0,0,1,0,1,1,1,1,1,1]) (hBlock 1 (hLoop ag_l2 (hBlock 0 (hSeq (g108 call k [1,1,1]) (hFin Try.prog Try.f108)))))) = f108_r13 call k sg_l2 (d 0) (d 1) (d 2) (d 7) (d 8) (d 11) H := by
  unfold f108_r13
  rw [n108_45]
  rw [s108_14]
  refine onV_c fun v1 => ?_
  refine onV_c fun v2 => ?_
  refine onV_c fun v3 => ?_
  refine onV_c fun v4 => ?_
  refine onV_c fun v5 => ?_
  refine onV_c fun v6 => ?_
  refine onV_c fun v7 => ?_
  refine onV_c fun v8 => ?_
  refine onV_c fun v9 => ?_
  refine onH_c fun H10 => ?_
  rw [hSeq_n]
  rw [n108_46]
  generalize e : (FG 95 d [(73, v9), (72, v8), (71, v7), (70, (d 11)), (69, v6), (68, v5), (67, v4), (66, (d 8)), (65, v3), (64, v2), (63, v1), (62, (d 0))]) = a
  rw [show a = (FF 95 (gf a)) from (FF_gf (by subst e; exact FG_len)).symm]
  exact (f108_r14_eq (d := gf a) call k ag_l2 sg_l2 h_l2).trans (by subst e; kernel_rfl)
noncomputable def f108_r10 (call : Handle) (k : Nat) (sg_l2 : Sg4) (x0 x1 x2 x7 x8 : Value) (H : GH) : M (Value × GH) :=
  onV (oNilCheck x0) fun v1 =>
  onV (oFieldAddr Try.prog 88 v1 0) fun v2 =>
  onV (gLoad Try.prog 85 v2 H) fun v3 =>
  onV (oIndexAddr Try.prog 85 v3 x8) fun v4 =>
  onV (oFieldAddr Try.prog 93 v4 1) fun v5 =>
  onV (gLoad Try.prog 3 v5 H) fun v6 =>
  onV ((oMinMax Try.prog false [x2, v6]).filter closed) fun v7 =>
  onV ((oBin Try.prog .sub 3 x2 v7).filter closed) fun v8 =>
  onV ((oBin Try.prog .add 3 x7 (.int .i64 1)).filter closed) fun v9 =>
  (f108_r13 call k (sg_l2) x0 x1 v8 v9 x8 v7 H)
theorem f108_r10_eq (call : Handle) (k : Nat) (ag_l2 : AG) (sg_l2 : Sg4) (h_l2 : f108_l2_P ag_l2 sg_l2) : g108 call k [1,1,0,0,0,1,0,1,1] (FF 95 d) H (hBlock 1 (hLoop ag_l2 (hBlock 0 (hSeq (g108 call k [1,1,1]) (hFin Try.prog Try.f108))))) = f108_r10 call k sg_l2 (d 0) (d 1) (d 2) (d 7) (d 8) H := by
  unfold f108_r10
  rw [n108_36]
  rw [n108_37]
  rw [s108_9]
  refine onV_c fun v1 => ?_
  refine onV_c fun v2 => ?_
  refine onV_c fun v3 => ?_
  refine onV_c fun v4 => ?_
  refine onV_c fun v5 => ?_
  refine onV_c fun v6 => ?_
  refine onV_c fun v7 => ?_
  rw [hSeq_n]
  rw [n108_38]
  rw [n108_39]
  rw [s108_10]
  refine onV_c fun v8 => ?_
  rw [hSeq_n]
  rw [n108_40]
  rw [n108_41]
  rw [s108_11]
  refine onV_c fun v9 => ?_
  rw [hSeq_n]
  rw [n108_42]
  generalize e : (FG 95 d [(7, v9), (61, v9), (60, (d 7)), (2, v8), (59, v8), (58, v7), (57, (d 2)), (11, v7), (56, v7), (55, v6), (54, v5), (53, v4), (52, (d 8)), (51, v3), (50, v2), (49, v1), (48, (d 0)), (47, (d 2))]) = a
  rw [show a = (FF 95 (gf a)) from (FF_gf (by subst e; exact FG_len)).symm]
  exact (f108_r13_eq (d := gf a) call k ag_l2 sg_l2 h_l2).trans (by subst e; kernel_rfl)
noncomputable def f108_l5b (call : Handle) (k : Nat) (sg_l2 : Sg4) (sg_l5 : Sg8) (x0 x1 x2 x7 x8 x17 x18 x19 : Value) (H : GH) : M (Value × GH) :=
  onV ((oBin Try.prog .lss 3 x19 x18).filter closed) fun v1 =>
  onBool (asB v1)
  (onV (oIndexAddr Try.prog 85 x17 x19) fun v2 =>
  onV (gLoad Try.prog 93 v2 H) fun v3 =>
  onH (gStore Try.prog 93 (.pointer (some ⟨H.n, 0, none⟩)) v3 (GH.push H (.row [(.int .i64 0), (.int .i64 0)] 93 false))) fun H4 =>
  (f108_r7 call k (sg_l2) (sg_l5) x0 x1 x2 x7 x8 x19 (.pointer (some ⟨H.n, 0, none⟩)) x17 x18 x19 H4))
  ((f108_r10 call k (sg_l2) x0 x1 x2 x7 x8 H))
theorem f108_l5b_eq (call : Handle) (k : Nat) (ag_l2 : AG) (sg_l2 : Sg4) (h_l2 : f108_l2_P ag_l2 sg_l2) (ag_l5 : AG) (sg_l5 : Sg8) (h_l5 : f108_l5_P ag_l5 sg_l5) : g108 call k [1,1,0,0,0,1,0,1,0,1,0,0] (FF 95 d) H (hLoop ag_l5 (hBlock 2 (hSeq (g108 call k [1,1,0,0,0,1,0,1,1]) (hBlock 1 (hLoop ag_l2 (hBlock 0 (hSeq (g108 call k [1,1,1]) (hFin Try.prog Try.f108)))))))) = f108_l5b call k sg_l2 sg_l5 (d 0) (d 1) (d 2) (d 7) (d 8) (d 17) (d 18) (d 19) H := by
  unfold f108_l5b
  rw [n108_24]
  rw [n108_25]
  rw [s108_6]
  refine onV_c fun v1 => ?_
  rw [hSeq_n]
  rw [n108_26]
  rw [n108_27]
  refine onBool_cc (by kernel_rfl) ?_ ?_
  · rw [n108_28]
    rw [hSeq_n]
    rw [n108_29]
    rw [n108_30]
    rw [n108_31]
    rw [n108_32]
    rw [s108_7]
    refine onV_c fun v2 => ?_
    refine onV_c fun v3 => ?_
    refine onH_c fun H4 => ?_
    rw [hSeq_n]
    rw [n108_33]
    generalize e : (FG 95 d [(9, (d 19)), (10, (.pointer (some ⟨H.n, 0, none⟩))), (23, v3), (22, v2), (21, (d 19)), (20, v1)]) = a
    rw [show a = (FF 95 (gf a)) from (FF_gf (by subst e; exact FG_len)).symm]
    exact (f108_r7_eq (d := gf a) call k ag_l2 sg_l2 h_l2 ag_l5 sg_l5 h_l5).trans (by subst e; kernel_rfl)
  · rw [n108_34]
    rw [hSeq_e, hLoop_e, hBlock_hit]
    rw [hSeq_n]
    generalize e : (FG 95 d [(20, v1)]) = a
    rw [show a = (FF 95 (gf a)) from (FF_gf (by subst e; exact FG_len)).symm]
    exact (f108_r10_eq (d := gf a) call k ag_l2 sg_l2 h_l2).trans (by subst e; kernel_rfl)
noncomputable def f108_l5 (call : Handle) (k : Nat) (sg_l2 : Sg4) : Nat → Value → Value → Value → Value → Value → Value → Value → Value → GH → M (Value × GH)
  | 0, _, _, _, _, _, _, _, _, _ => none
  | r + 1, x0, x1, x2, x7, x8, x17, x18, x19, H => f108_l5b call k sg_l2 (f108_l5 call k sg_l2 r) x0 x1 x2 x7 x8 x17 x18 x19 H
theorem f108_l5_eq (call : Handle) (k : Nat) (ag_l2 : AG) (sg_l2 : Sg4) (h_l2 : f108_l2_P ag_l2 sg_l2) : ∀ (r : Nat), f108_l5_P (gLoop (g108 call k [1,1,0,0,0,1,0,1,0,1,0,0]) (hBlock 2 (hSeq (g108 call k [1,1,0,0,0,1,0,1,1]) (hBlock 1 (hLoop ag_l2 (hBlock 0 (hSeq (g108 call k [1,1,1]) (hFin Try.prog Try.f108))))))) r) (f108_l5 call k sg_l2 r) := by
  intro r
  induction r with
  | zero => unfold f108_l5_P; intros; rfl
  | succ r ih => unfold f108_l5_P; intros; exact f108_l5b_eq call k ag_l2 sg_l2 h_l2 _ _ ih
noncomputable def f108_l2b (call : Handle) (k : Nat) (sg_l2 : Sg4) (x0 x1 x2 x7 : Value) (H : GH) : M (Value × GH) :=
  onV ((oBin Try.prog .gtr 3 x2 (.int .i64 0)).filter closed) fun v1 =>
  onBool (asB v1)
  (onV (oNilCheck x0) fun v2 =>
  onV (oFieldAddr Try.prog 88 v2 0) fun v3 =>
  onV (gLoad Try.prog 85 v3 H) fun v4 =>
  onV (oLen Try.prog 85 v4) fun v5 =>
  (f108_l5 call k (sg_l2) k x0 x1 x2 x7 (.int .i64 (-1)) v4 v5 (.int .i64 0) H))
  (some [(x7, H)])
theorem f108_l2b_eq (call : Handle) (k : Nat) (ag_l2 : AG) (sg_l2 : Sg4) (h_l2 : f108_l2_P ag_l2 sg_l2) : g108 call k [1,1,0,0,0] (FF 95 d) H (hLoop ag_l2 (hBlock 0 (hSeq (g108 call k [1,1,1]) (hFin Try.prog Try.f108)))) = f108_l2b call k sg_l2 (d 0) (d 1) (d 2) (d 7) H := by
  unfold f108_l2b
  rw [n108_7]
  rw [n108_8]
  rw [n108_9]
  rw [s108_2]
  refine onV_c fun v1 => ?_
  rw [hSeq_n]
  rw [n108_10]
  refine onBool_cc (by kernel_rfl) ?_ ?_
  · rw [n108_11]
    rw [hSeq_n]
    rw [n108_12]
    rw [n108_13]
    rw [n108_14]
    rw [s108_3]
    rw [hSeq_n]
    rw [n108_15]
    rw [n108_16]
    rw [n108_17]
    rw [s108_4]
    refine onV_c fun v2 => ?_
    refine onV_c fun v3 => ?_
    refine onV_c fun v4 => ?_
    refine onV_c fun v5 => ?_
    rw [hSeq_n]
    rw [n108_18]
    rw [n108_19]
    generalize e : (FG 95 d [(19, (.int .i64 0)), (18, v5), (17, v4), (16, v3), (15, v2), (14, (d 0)), (8, (.int .i64 (-1))), (13, v1), (12, (d 2))]) = a
    rw [show a = (FF 95 (gf a)) from (FF_gf (by subst e; exact FG_len)).symm]
    exact (f108_l5_at (d := gf a) (f108_l5_eq call k ag_l2 sg_l2 h_l2 k)).trans (by subst e; kernel_rfl)
  · rw [n108_20]
    rw [hSeq_e, hLoop_e, hBlock_hit]
    rw [hSeq_n]
    rw [n108_21]
    rw [n108_22]
    rw [s108_5]
    rw [hSeq_n]
    rw [n108_23]
    kernel_rfl
noncomputable def f108_l2 (call : Handle) (k : Nat) : Nat → Value → Value → Value → Value → GH → M (Value × GH)
  | 0, _, _, _, _, _ => none
  | r + 1, x0, x1, x2, x7, H => f108_l2b call k (f108_l2 call k r) x0 x1 x2 x7 H
theorem f108_l2_eq (call : Handle) (k : Nat) : ∀ (r : Nat), f108_l2_P (gLoop (g108 call k [1,1,0,0,0]) (hBlock 0 (hSeq (g108 call k [1,1,1]) (hFin Try.prog Try.f108))) r) (f108_l2 call k r) := by
  intro r
  induction r with
  | zero => unfold f108_l2_P; intros; rfl
  | succ r ih => unfold f108_l2_P; intros; exact f108_l2b_eq call k _ _ ih
noncomputable def f108_sh (call : Handle) (k : Nat) (p0 p1 p2 : Value) (H : GH) : M (Value × GH) :=
  (f108_l2 call k k p0 p1 p2 (.int .i64 0) H)
theorem f108_run (call : Handle) (k : Nat) (p0 p1 p2 : Value) (H : GH) : g108 call k [] (FG 95 (fun _ => undef) [(2, p2), (1, p1), (0, p0)]) H (hFin Try.prog Try.f108) = f108_sh call k p0 p1 p2 H := by
  unfold f108_sh
  rw [n108_0]
  rw [n108_1]
  rw [s108_0]
  rw [hSeq_n]
  rw [n108_2]
  rw [n108_3]
  rw [s108_1]
  rw [hSeq_n]
  rw [n108_4]
  rw [n108_5]
  rw [n108_6]
  generalize e : (FG 95 (fun _ => undef) [(7, (.int .i64 0)), (6, (.int .i64 0)), (2, p2), (1, p1), (0, p0)]) = a
  rw [show a = (FF 95 (gf a)) from (FF_gf (by subst e; exact FG_len)).symm]
  exact (f108_l2_at (d := gf a) (f108_l2_eq call k k)).trans (by subst e; kernel_rfl)
theorem f108_eq (call : Handle) (k : Nat) (p0 p1 p2 : Value) (H : GH) : gFunc Try.prog call k Try.f108 [p0, p1, p2] H = f108_sh call k p0 p1 p2 H :=
  Eq.trans (by kernel_rfl) (f108_run call k p0 p1 p2 H)
end
noncomputable def g109 {β : Type} (call : Handle) (k : Nat) (p : List Nat) : GA → GH → Kont β → M β := gCode Try.prog call k (fAt Try.f109 p)
noncomputable def o109 {β : Type} (d : Nat) (call : Handle) (p : List Nat) (i : Nat) : GA → GH → (GA → GH → M β) → M β := gOps Try.prog d call (opsAt (fAt Try.f109 p)) ((opsAt (fAt Try.f109 p)).drop i)
noncomputable def t109 {β : Type} (d : Nat) (call : Handle) (p : List Nat) (i n : Nat) : GA → GH → (GA → GH → M β) → M β := gOps Try.prog d call (opsAt (fAt Try.f109 p)) (((opsAt (fAt Try.f109 p)).drop i).take n)
theorem o109_s {β : Type} {d : Nat} {call : Handle} {p : List Nat} {a : GA} {H : GH} {K : GA → GH → M β} (i n : Nat) : o109 d call p i a H K = t109 d call p i n a H fun a H => o109 d call p (i + n) a H K := gOps_split i n
section
variable {β : Type} {call : Handle} {k : Nat} {a : GA} {K : Kont β} {K' : GA → GH → M β}
variable {d : Nat → Value} {xg : Value}
variable {p0 p1 p2 : Value}
variable {v1 v2 v3 v4 : Value}
variable {H H3 : GH}
theorem n109_0 : g109 call k [] a H K = g109 call k [0] a H (hSeq (g109 call k [1]) K) := at_seq (by kernel_rfl)
theorem n109_1 : g109 call k [0] a H K = o109 0 call [0] 0 a H (K .normal) := at_region (by kernel_rfl)
theorem n109_2 : g109 call k [1] a H K = g109 call k [1,0] a H (hSeq (g109 call k [1,1]) K) := at_seq (by kernel_rfl)
theorem n109_3 : g109 call k [1,0] a H K = o109 0 call [1,0] 0 a H (K .normal) := at_region (by kernel_rfl)
theorem n109_4 : g109 call k [1,1] a H K = g109 call k [1,1,0] a H (hSeq (g109 call k [1,1,1]) K) := at_seq (by kernel_rfl)
theorem n109_5 : g109 call k [1,1,0] a H K = g109 call k [1,1,0,0] a H (hSeq (g109 call k [1,1,0,1]) K) := at_seq (by kernel_rfl)
theorem n109_6 : g109 call k [1,1,0,0] a H K = o109 0 call [1,1,0,0] 0 a H (K .normal) := at_region (by kernel_rfl)
theorem n109_7 : g109 call k [1,1,0,1] a H K = onBool (asB (GA.eval a (.tmp 16))) (g109 call k [1,1,0,1,0] a H K) (g109 call k [1,1,0,1,1] a H K) := at_cond (by kernel_rfl)
theorem n109_8 : g109 call k [1,1,0,1,0] a H K = g109 call k [1,1,0,1,0,0] a H (hSeq (g109 call k [1,1,0,1,0,1]) K) := at_seq (by kernel_rfl)
theorem n109_9 : g109 call k [1,1,0,1,0,0] a H K = o109 0 call [1,1,0,1,0,0] 0 a H (K .normal) := at_region (by kernel_rfl)
theorem n109_10 : g109 call k [1,1,0,1,0,1] a H K = K .ret a H := at_ret (by kernel_rfl)
theorem n109_11 : g109 call k [1,1,0,1,1] a H K = K .normal a H := at_skip (by kernel_rfl)
theorem n109_12 : g109 call k [1,1,1] a H K = g109 call k [1,1,1,0] a H (hSeq (g109 call k [1,1,1,1]) K) := at_seq (by kernel_rfl)
theorem n109_13 : g109 call k [1,1,1,0] a H K = o109 0 call [1,1,1,0] 0 a H (K .normal) := at_region (by kernel_rfl)
theorem n109_14 : g109 call k [1,1,1,1] a H K = g109 call k [1,1,1,1,0] a H (hSeq (g109 call k [1,1,1,1,1]) K) := at_seq (by kernel_rfl)
theorem n109_15 : g109 call k [1,1,1,1,0] a H K = o109 1 call [1,1,1,1,0] 0 a H (K .normal) := at_region (by kernel_rfl)
theorem n109_16 : g109 call k [1,1,1,1,1] a H K = g109 call k [1,1,1,1,1,0] a H (hSeq (g109 call k [1,1,1,1,1,1]) K) := at_seq (by kernel_rfl)
theorem n109_17 : g109 call k [1,1,1,1,1,0] a H K = o109 0 call [1,1,1,1,1,0] 0 a H (K .normal) := at_region (by kernel_rfl)
theorem n109_18 : g109 call k [1,1,1,1,1,1] a H K = g109 call k [1,1,1,1,1,1,0] a H (hSeq (g109 call k [1,1,1,1,1,1,1]) K) := at_seq (by kernel_rfl)
theorem n109_19 : g109 call k [1,1,1,1,1,1,0] a H K = o109 0 call [1,1,1,1,1,1,0] 0 a H (K .normal) := at_region (by kernel_rfl)
theorem n109_20 : g109 call k [1,1,1,1,1,1,1] a H K = K .ret a H := at_ret (by kernel_rfl)
theorem s109_0 : o109 0 call [0] 0 (FG 33 (fun _ => undef) [(2, p2), (1, p1), (0, p0)]) H K' =
  K' (FG 33 (fun _ => undef) [(6, (.slice none 0 0)), (2, p2), (1, p1), (0, p0)]) H := by kernel_rfl
theorem s109_1 : o109 0 call [1,0] 0 (FG 33 (fun _ => undef) [(6, (.slice none 0 0)), (2, p2), (1, p1), (0, p0)]) H K' =
  onV (oLen Try.prog 86 p0) fun v1 =>
  onV (oSlice Try.prog 86 p0 (some p1) (some p2) (some v1)) fun v2 =>
  K' (FG 33 (fun _ => undef) [(13, v2), (12, v1), (11, p0), (10, p2), (9, p1), (8, p0), (6, (.slice none 0 0)), (2, p2), (1, p1), (0, p0)]) H := by kernel_rfl
theorem s109_2 : o109 0 call [1,1,0,0] 0 (FG 33 (fun _ => undef) [(13, v2), (12, v1), (11, p0), (10, p2), (9, p1), (8, p0), (6, (.slice none 0 0)), (2, p2), (1, p1), (0, p0)]) H K' =
  onV ((oBin Try.prog .eql 3 p1 p2).filter closed) fun v3 =>
  K' (FG 33 (fun _ => undef) [(16, v3), (15, p2), (14, p1), (13, v2), (12, v1), (11, p0), (10, p2), (9, p1), (8, p0), (6, (.slice none 0 0)), (2, p2), (1, p1), (0, p0)]) H := by kernel_rfl
theorem s109_3 : o109 0 call [1,1,0,1,0,0] 0 (FG 33 (fun _ => undef) [(16, v3), (15, p2), (14, p1), (13, v2), (12, v1), (11, p0), (10, p2), (9, p1), (8, p0), (6, (.slice none 0 0)), (2, p2), (1, p1), (0, p0)]) H K' =
  K' (FG 33 (fun _ => undef) [(6, p0), (17, p0), (16, v3), (15, p2), (14, p1), (13, v2), (12, v1), (11, p0), (10, p2), (9, p1), (8, p0), (6, (.slice none 0 0)), (2, p2), (1, p1), (0, p0)]) H := by kernel_rfl
theorem s109_4 : o109 0 call [1,1,1,0] 0 (FG 33 (fun _ => undef) [(16, v3), (15, p2), (14, p1), (13, v2), (12, v1), (11, p0), (10, p2), (9, p1), (8, p0), (6, (.slice none 0 0)), (2, p2), (1, p1), (0, p0)]) H K' =
  onV (oLen Try.prog 86 p0) fun v4 =>
  K' (FG 33 (fun _ => undef) [(7, v4), (19, v4), (18, p0), (16, v3), (15, p2), (14, p1), (13, v2), (12, v1), (11, p0), (10, p2), (9, p1), (8, p0), (6, (.slice none 0 0)), (2, p2), (1, p1), (0, p0)]) H := by kernel_rfl
theorem s109_5 : o109 1 call [1,1,1,1,0] 0 (FG 33 (fun _ => undef) [(7, v4), (19, v4), (18, p0), (16, v3), (15, p2), (14, p1), (13, v2), (12, v1), (11, p0), (10, p2), (9, p1), (8, p0), (6, (.slice none 0 0)), (2, p2), (1, p1), (0, p0)]) H K' =
  onV (oSlice Try.prog 86 p0 none (some p1) none) fun v5 =>
  onV (oSlice Try.prog 86 p0 (some p2) none none) fun v6 =>
  onVH (gAppend Try.prog 86 86 v5 v6 H) fun v7 H8 =>
  K' (FG 33 (fun _ => undef) [(0, v7), (26, v7), (25, v6), (24, p2), (23, p0), (22, v5), (21, p1), (20, p0), (7, v4), (19, v4), (18, p0), (16, v3), (15, p2), (14, p1), (13, v2), (12, v1), (11, p0), (10, p2), (9, p1), (8, p0), (6, (.slice none 0 0)), (2, p2), (1, p1), (0, p0)]) H8 := by kernel_rfl
theorem s109_6 : o109 0 call [1,1,1,1,1,0] 0 (FF 33 d) H K' =
  onV (oLen Try.prog 86 (d 0)) fun v1 =>
  onV (oSlice Try.prog 86 (d 0) (some v1) (some (d 7)) none) fun v2 =>
  onH (gClear Try.prog 86 v2 H) fun H3 =>
  K' (FG 33 d [(31, v2), (30, (d 7)), (29, v1), (28, (d 0)), (27, (d 0))]) H3 := by kernel_rfl
theorem s109_7 : o109 0 call [1,1,1,1,1,1,0] 0 (FG 33 d [(31, v2), (30, (d 7)), (29, v1), (28, (d 0)), (27, (d 0))]) H3 K' =
  K' (FG 33 d [(6, (d 0)), (32, (d 0)), (31, v2), (30, (d 7)), (29, v1), (28, (d 0)), (27, (d 0))]) H3 := by kernel_rfl
noncomputable def f109_r6 (call : Handle) (k : Nat) (x0 x7 : Value) (H : GH) : M (Value × GH) :=
  onV (oLen Try.prog 86 x0) fun v1 =>
  onV (oSlice Try.prog 86 x0 (some v1) (some x7) none) fun v2 =>
  onH (gClear Try.prog 86 v2 H) fun H3 =>
  some [(x0, H3)]
theorem f109_r6_eq (call : Handle) (k : Nat) : g109 call k [1,1,1,1,1,0] (FF 33 d) H (hSeq (g109 call k [1,1,1,1,1,1]) (hFin Try.prog Try.f109)) = f109_r6 call k (d 0) (d 7) H := by
  unfold f109_r6
  rw [n109_17]
  rw [s109_6]
  refine onV_c fun v1 => ?_
  refine onV_c fun v2 => ?_
  refine onH_c fun H3 => ?_
  rw [hSeq_n]
  rw [n109_18]
  rw [n109_19]
  rw [s109_7]
  rw [hSeq_n]
  rw [n109_20]
  kernel_rfl
noncomputable def f109_sh (call : Handle) (k : Nat) (p0 p1 p2 : Value) (H : GH) : M (Value × GH) :=
  onV (oLen Try.prog 86 p0) fun v1 =>
  onV (oSlice Try.prog 86 p0 (some p1) (some p2) (some v1)) fun v2 =>
  onV ((oBin Try.prog .eql 3 p1 p2).filter closed) fun v3 =>
  onBool (asB v3)
  (some [(p0, H)])
  (onV (oLen Try.prog 86 p0) fun v4 =>
  onV (oSlice Try.prog 86 p0 none (some p1) none) fun v5 =>
  onV (oSlice Try.prog 86 p0 (some p2) none none) fun v6 =>
  onVH (gAppend Try.prog 86 86 v5 v6 H) fun v7 H8 =>
  (f109_r6 call k v7 v4 H8))
theorem f109_run (call : Handle) (k : Nat) (p0 p1 p2 : Value) (H : GH) : g109 call k [] (FG 33 (fun _ => undef) [(2, p2), (1, p1), (0, p0)]) H (hFin Try.prog Try.f109) = f109_sh call k p0 p1 p2 H := by
  unfold f109_sh
  rw [n109_0]
  rw [n109_1]
  rw [s109_0]
  rw [hSeq_n]
  rw [n109_2]
  rw [n109_3]
  rw [s109_1]
  refine onV_c fun v1 => ?_
  refine onV_c fun v2 => ?_
  rw [hSeq_n]
  rw [n109_4]
  rw [n109_5]
  rw [n109_6]
  rw [s109_2]
  refine onV_c fun v3 => ?_
  rw [hSeq_n]
  rw [n109_7]
  refine onBool_cc (by kernel_rfl) ?_ ?_
  · rw [n109_8]
    rw [n109_9]
    rw [s109_3]
    rw [hSeq_n]
    rw [n109_10]
    rw [hSeq_r]
    kernel_rfl
  · rw [n109_11]
    rw [hSeq_n]
    rw [n109_12]
    rw [n109_13]
    rw [s109_4]
    refine onV_c fun v4 => ?_
    rw [hSeq_n]
    rw [n109_14]
    rw [n109_15]
    rw [s109_5]
    refine onV_c fun v5 => ?_
    refine onV_c fun v6 => ?_
    refine onVH_c fun v7 H8 => ?_
    rw [hSeq_n]
    rw [n109_16]
    generalize e : (FG 33 (fun _ => undef) [(0, v7), (26, v7), (25, v6), (24, p2), (23, p0), (22, v5), (21, p1), (20, p0), (7, v4), (19, v4), (18, p0), (16, v3), (15, p2), (14, p1), (13, v2), (12, v1), (11, p0), (10, p2), (9, p1), (8, p0), (6, (.slice none 0 0)), (2, p2), (1, p1), (0, p0)]) = a
    rw [show a = (FF 33 (gf a)) from (FF_gf (by subst e; exact FG_len)).symm]
    exact (f109_r6_eq (d := gf a) call k).trans (by subst e; kernel_rfl)
theorem f109_eq (call : Handle) (k : Nat) (p0 p1 p2 : Value) (H : GH) : gFunc Try.prog call k Try.f109 [p0, p1, p2] H = f109_sh call k p0 p1 p2 H :=
  Eq.trans (by kernel_rfl) (f109_run call k p0 p1 p2 H)
end
noncomputable def g112 {β : Type} (call : Handle) (k : Nat) (p : List Nat) : GA → GH → Kont β → M β := gCode Try.prog call k (fAt Try.f112 p)
noncomputable def o112 {β : Type} (d : Nat) (call : Handle) (p : List Nat) (i : Nat) : GA → GH → (GA → GH → M β) → M β := gOps Try.prog d call (opsAt (fAt Try.f112 p)) ((opsAt (fAt Try.f112 p)).drop i)
noncomputable def t112 {β : Type} (d : Nat) (call : Handle) (p : List Nat) (i n : Nat) : GA → GH → (GA → GH → M β) → M β := gOps Try.prog d call (opsAt (fAt Try.f112 p)) (((opsAt (fAt Try.f112 p)).drop i).take n)
theorem o112_s {β : Type} {d : Nat} {call : Handle} {p : List Nat} {a : GA} {H : GH} {K : GA → GH → M β} (i n : Nat) : o112 d call p i a H K = t112 d call p i n a H fun a H => o112 d call p (i + n) a H K := gOps_split i n
section
variable {β : Type} {call : Handle} {k : Nat} {a : GA} {K : Kont β} {K' : GA → GH → M β}
variable {d : Nat → Value} {xg : Value}
variable {p0 p1 : Value}
variable {v1 v3 v5 v6 : Value}
variable {H H2 H4 : GH}
theorem n112_0 : g112 call k [] a H K = g112 call k [0] a H (hSeq (g112 call k [1]) K) := at_seq (by kernel_rfl)
theorem n112_1 : g112 call k [0] a H K = o112 0 call [0] 0 a H (K .normal) := at_region (by kernel_rfl)
theorem n112_2 : g112 call k [1] a H K = g112 call k [1,0] a H (hSeq (g112 call k [1,1]) K) := at_seq (by kernel_rfl)
theorem n112_3 : g112 call k [1,0] a H K = o112 0 call [1,0] 0 a H (K .normal) := at_region (by kernel_rfl)
theorem n112_4 : g112 call k [1,1] a H K = g112 call k [1,1,0] a H (hSeq (g112 call k [1,1,1]) K) := at_seq (by kernel_rfl)
theorem n112_5 : g112 call k [1,1,0] a H K = o112 0 call [1,1,0] 0 a H (K .normal) := at_region (by kernel_rfl)
theorem n112_6 : g112 call k [1,1,1] a H K = g112 call k [1,1,1,0] a H (hSeq (g112 call k [1,1,1,1]) K) := at_seq (by kernel_rfl)
theorem n112_7 : g112 call k [1,1,1,0] a H K = g112 call k [1,1,1,0,0] a H (hSeq (g112 call k [1,1,1,0,1]) K) := at_seq (by kernel_rfl)
theorem n112_8 : g112 call k [1,1,1,0,0] a H K = o112 0 call [1,1,1,0,0] 0 a H (K .normal) := at_region (by kernel_rfl)
theorem n112_9 : g112 call k [1,1,1,0,1] a H K = onBool (asB (GA.eval a (.tmp 11))) (g112 call k [1,1,1,0,1,0] a H K) (g112 call k [1,1,1,0,1,1] a H K) := at_cond (by kernel_rfl)
theorem n112_10 : g112 call k [1,1,1,0,1,0] a H K = g112 call k [1,1,1,0,1,0,0] a H (hSeq (g112 call k [1,1,1,0,1,0,1]) K) := at_seq (by kernel_rfl)
theorem n112_11 : g112 call k [1,1,1,0,1,0,0] a H K = g112 call k [1,1,1,0,1,0,0,0] a H (hSeq (g112 call k [1,1,1,0,1,0,0,1]) K) := at_seq (by kernel_rfl)
theorem n112_12 : g112 call k [1,1,1,0,1,0,0,0] a H K = o112 0 call [1,1,1,0,1,0,0,0] 0 a H (K .normal) := at_region (by kernel_rfl)
theorem n112_13 : g112 call k [1,1,1,0,1,0,0,1] a H K = onBool (asB (GA.eval a (.tmp 12))) (g112 call k [1,1,1,0,1,0,0,1,0] a H K) (g112 call k [1,1,1,0,1,0,0,1,1] a H K) := at_cond (by kernel_rfl)
theorem n112_14 : g112 call k [1,1,1,0,1,0,0,1,0] a H K = g112 call k [1,1,1,0,1,0,0,1,0,0] a H (hSeq (g112 call k [1,1,1,0,1,0,0,1,0,1]) K) := at_seq (by kernel_rfl)
theorem n112_15 : g112 call k [1,1,1,0,1,0,0,1,0,0] a H K = o112 0 call [1,1,1,0,1,0,0,1,0,0] 0 a H (K .normal) := at_region (by kernel_rfl)
theorem n112_16 : g112 call k [1,1,1,0,1,0,0,1,0,1] a H K = K .ret a H := at_ret (by kernel_rfl)
theorem n112_17 : g112 call k [1,1,1,0,1,0,0,1,1] a H K = K .normal a H := at_skip (by kernel_rfl)
theorem n112_18 : g112 call k [1,1,1,0,1,0,1] a H K = g112 call k [1,1,1,0,1,0,1,0] a H (hSeq (g112 call k [1,1,1,0,1,0,1,1]) K) := at_seq (by kernel_rfl)
theorem n112_19 : g112 call k [1,1,1,0,1,0,1,0] a H K = o112 0 call [1,1,1,0,1,0,1,0] 0 a H (K .normal) := at_region (by kernel_rfl)
theorem n112_20 : g112 call k [1,1,1,0,1,0,1,1] a H K = K .ret a H := at_ret (by kernel_rfl)
theorem n112_21 : g112 call k [1,1,1,0,1,1] a H K = K .normal a H := at_skip (by kernel_rfl)
theorem n112_22 : g112 call k [1,1,1,1] a H K = g112 call k [1,1,1,1,0] a H (hSeq (g112 call k [1,1,1,1,1]) K) := at_seq (by kernel_rfl)
theorem n112_23 : g112 call k [1,1,1,1,0] a H K = g112 call k [1,1,1,1,0,0] a H (hSeq (g112 call k [1,1,1,1,0,1]) K) := at_seq (by kernel_rfl)
theorem n112_24 : g112 call k [1,1,1,1,0,0] a H K = o112 0 call [1,1,1,1,0,0] 0 a H (K .normal) := at_region (by kernel_rfl)
theorem n112_25 : g112 call k [1,1,1,1,0,1] a H K = onBool (asB (GA.eval a (.tmp 13))) (g112 call k [1,1,1,1,0,1,0] a H K) (g112 call k [1,1,1,1,0,1,1] a H K) := at_cond (by kernel_rfl)
theorem n112_26 : g112 call k [1,1,1,1,0,1,0] a H K = g112 call k [1,1,1,1,0,1,0,0] a H (hSeq (g112 call k [1,1,1,1,0,1,0,1]) K) := at_seq (by kernel_rfl)
theorem n112_27 : g112 call k [1,1,1,1,0,1,0,0] a H K = o112 0 call [1,1,1,1,0,1,0,0] 0 a H (K .normal) := at_region (by kernel_rfl)
theorem n112_28 : g112 call k [1,1,1,1,0,1,0,1] a H K = K .ret a H := at_ret (by kernel_rfl)
theorem n112_29 : g112 call k [1,1,1,1,0,1,1] a H K = K .normal a H := at_skip (by kernel_rfl)
theorem n112_30 : g112 call k [1,1,1,1,1] a H K = g112 call k [1,1,1,1,1,0] a H (hSeq (g112 call k [1,1,1,1,1,1]) K) := at_seq (by kernel_rfl)
theorem n112_31 : g112 call k [1,1,1,1,1,0] a H K = g112 call k [1,1,1,1,1,0,0] a H (hSeq (g112 call k [1,1,1,1,1,0,1]) K) := at_seq (by kernel_rfl)
theorem n112_32 : g112 call k [1,1,1,1,1,0,0] a H K = o112 0 call [1,1,1,1,1,0,0] 0 a H (K .normal) := at_region (by kernel_rfl)
theorem n112_33 : g112 call k [1,1,1,1,1,0,1] a H K = onBool (asB (GA.eval a (.tmp 16))) (g112 call k [1,1,1,1,1,0,1,0] a H K) (g112 call k [1,1,1,1,1,0,1,1] a H K) := at_cond (by kernel_rfl)
theorem n112_34 : g112 call k [1,1,1,1,1,0,1,0] a H K = g112 call k [1,1,1,1,1,0,1,0,0] a H (hSeq (g112 call k [1,1,1,1,1,0,1,0,1]) K) := at_seq (by kernel_rfl)
theorem n112_35 : g112 call k [1,1,1,1,1,0,1,0,0] a H K = o112 0 call [1,1,1,1,1,0,1,0,0] 0 a H (K .normal) := at_region (by kernel_rfl)
theorem n112_36 : g112 call k [1,1,1,1,1,0,1,0,1] a H K = K .ret a H := at_ret (by kernel_rfl)
theorem n112_37 : g112 call k [1,1,1,1,1,0,1,1] a H K = K .normal a H := at_skip (by kernel_rfl)
theorem n112_38 : g112 call k [1,1,1,1,1,1] a H K = g112 call k [1,1,1,1,1,1,0] a H (hSeq (g112 call k [1,1,1,1,1,1,1]) K) := at_seq (by kernel_rfl)
theorem n112_39 : g112 call k [1,1,1,1,1,1,0] a H K = g112 call k [1,1,1,1,1,1,0,0] a H (hSeq (g112 call k [1,1,1,1,1,1,0,1]) K) := at_seq (by kernel_rfl)
theorem n112_40 : g112 call k [1,1,1,1,1,1,0,0] a H K = o112 0 call [1,1,1,1,1,1,0,0] 0 a H (K .normal) := at_region (by kernel_rfl)
theorem n112_41 : g112 call k [1,1,1,1,1,1,0,1] a H K = onBool (asB (GA.eval a (.tmp 19))) (g112 call k [1,1,1,1,1,1,0,1,0] a H K) (g112 call k [1,1,1,1,1,1,0,1,1] a H K) := at_cond (by kernel_rfl)
theorem n112_42 : g112 call k [1,1,1,1,1,1,0,1,0] a H K = g112 call k [1,1,1,1,1,1,0,1,0,0] a H (hSeq (g112 call k [1,1,1,1,1,1,0,1,0,1]) K) := at_seq (by kernel_rfl)
theorem n112_43 : g112 call k [1,1,1,1,1,1,0,1,0,0] a H K = o112 0 call [1,1,1,1,1,1,0,1,0,0] 0 a H (K .normal) := at_region (by kernel_rfl)
theorem n112_44 : g112 call k [1,1,1,1,1,1,0,1,0,1] a H K = K .ret a H := at_ret (by kernel_rfl)
theorem n112_45 : g112 call k [1,1,1,1,1,1,0,1,1] a H K = K .normal a H := at_skip (by kernel_rfl)
theorem n112_46 : g112 call k [1,1,1,1,1,1,1] a H K = g112 call k [1,1,1,1,1,1,1,0] a H (hSeq (g112 call k [1,1,1,1,1,1,1,1]) K) := at_seq (by kernel_rfl)
theorem n112_47 : g112 call k [1,1,1,1,1,1,1,0] a H K = o112 0 call [1,1,1,1,1,1,1,0] 0 a H (K .normal) := at_region (by kernel_rfl)
theorem n112_48 : g112 call k [1,1,1,1,1,1,1,1] a H K = K .ret a H := at_ret (by kernel_rfl)
theorem s112_0 : o112 0 call [0] 0 (FG 20 (fun _ => undef) [(1, p1), (0, p0)]) H K' =
  K' (FG 20 (fun _ => undef) [(4, (.int .i64 0)), (1, p1), (0, p0)]) H := by kernel_rfl
theorem s112_1 : o112 0 call [1,0] 0 (FG 20 (fun _ => undef) [(4, (.int .i64 0)), (1, p1), (0, p0)]) H K' =
  onCall 0 call (.func (.func 164) #[] #[]) [p0] H fun v1 H2 =>
  K' (FG 20 (fun _ => undef) [(5, v1), (8, v1), (7, p0), (4, (.int .i64 0)), (1, p1), (0, p0)]) H2 := by kernel_rfl
theorem s112_2 : o112 0 call [1,1,0] 0 (FG 20 (fun _ => undef) [(5, v1), (8, v1), (7, p0), (4, (.int .i64 0)), (1, p1), (0, p0)]) H2 K' =
  onCall 0 call (.func (.func 164) #[] #[]) [p1] H2 fun v3 H4 =>
  K' (FG 20 (fun _ => undef) [(6, v3), (10, v3), (9, p1), (5, v1), (8, v1), (7, p0), (4, (.int .i64 0)), (1, p1), (0, p0)]) H4 := by kernel_rfl
theorem s112_3 : o112 0 call [1,1,1,0,0] 0 (FG 20 (fun _ => undef) [(6, v3), (10, v3), (9, p1), (5, v1), (8, v1), (7, p0), (4, (.int .i64 0)), (1, p1), (0, p0)]) H4 K' =
  K' (FG 20 (fun _ => undef) [(11, v1), (6, v3), (10, v3), (9, p1), (5, v1), (8, v1), (7, p0), (4, (.int .i64 0)), (1, p1), (0, p0)]) H4 := by kernel_rfl
theorem s112_4 : o112 0 call [1,1,1,0,1,0,0,0] 0 (FG 20 (fun _ => undef) [(11, v1), (6, v3), (10, v3), (9, p1), (5, v1), (8, v1), (7, p0), (4, (.int .i64 0)), (1, p1), (0, p0)]) H4 K' =
  K' (FG 20 (fun _ => undef) [(12, v3), (11, v1), (6, v3), (10, v3), (9, p1), (5, v1), (8, v1), (7, p0), (4, (.int .i64 0)), (1, p1), (0, p0)]) H4 := by kernel_rfl
theorem s112_5 : o112 0 call [1,1,1,0,1,0,0,1,0,0] 0 (FG 20 (fun _ => undef) [(12, v3), (11, v1), (6, v3), (10, v3), (9, p1), (5, v1), (8, v1), (7, p0), (4, (.int .i64 0)), (1, p1), (0, p0)]) H4 K' =
  K' (FG 20 (fun _ => undef) [(4, (.int .i64 0)), (12, v3), (11, v1), (6, v3), (10, v3), (9, p1), (5, v1), (8, v1), (7, p0), (4, (.int .i64 0)), (1, p1), (0, p0)]) H4 := by kernel_rfl
theorem s112_6 : o112 0 call [1,1,1,0,1,0,1,0] 0 (FG 20 (fun _ => undef) [(12, v3), (11, v1), (6, v3), (10, v3), (9, p1), (5, v1), (8, v1), (7, p0), (4, (.int .i64 0)), (1, p1), (0, p0)]) H4 K' =
  K' (FG 20 (fun _ => undef) [(4, (.int .i64 (-1))), (12, v3), (11, v1), (6, v3), (10, v3), (9, p1), (5, v1), (8, v1), (7, p0), (4, (.int .i64 0)), (1, p1), (0, p0)]) H4 := by kernel_rfl
theorem s112_7 : o112 0 call [1,1,1,1,0,0] 0 (FG 20 (fun _ => undef) [(11, v1), (6, v3), (10, v3), (9, p1), (5, v1), (8, v1), (7, p0), (4, (.int .i64 0)), (1, p1), (0, p0)]) H4 K' =
  K' (FG 20 (fun _ => undef) [(13, v3), (11, v1), (6, v3), (10, v3), (9, p1), (5, v1), (8, v1), (7, p0), (4, (.int .i64 0)), (1, p1), (0, p0)]) H4 := by kernel_rfl
theorem s112_8 : o112 0 call [1,1,1,1,0,1,0,0] 0 (FG 20 (fun _ => undef) [(13, v3), (11, v1), (6, v3), (10, v3), (9, p1), (5, v1), (8, v1), (7, p0), (4, (.int .i64 0)), (1, p1), (0, p0)]) H4 K' =
  K' (FG 20 (fun _ => undef) [(4, (.int .i64 1)), (13, v3), (11, v1), (6, v3), (10, v3), (9, p1), (5, v1), (8, v1), (7, p0), (4, (.int .i64 0)), (1, p1), (0, p0)]) H4 := by kernel_rfl
theorem s112_9 : o112 0 call [1,1,1,1,1,0,0] 0 (FG 20 (fun _ => undef) [(13, v3), (11, v1), (6, v3), (10, v3), (9, p1), (5, v1), (8, v1), (7, p0), (4, (.int .i64 0)), (1, p1), (0, p0)]) H4 K' =
  onV ((oBin Try.prog .lss 3 p0 p1).filter closed) fun v5 =>
  K' (FG 20 (fun _ => undef) [(16, v5), (15, p1), (14, p0), (13, v3), (11, v1), (6, v3), (10, v3), (9, p1), (5, v1), (8, v1), (7, p0), (4, (.int .i64 0)), (1, p1), (0, p0)]) H4 := by kernel_rfl
theorem s112_10 : o112 0 call [1,1,1,1,1,0,1,0,0] 0 (FG 20 (fun _ => undef) [(16, v5), (15, p1), (14, p0), (13, v3), (11, v1), (6, v3), (10, v3), (9, p1), (5, v1), (8, v1), (7, p0), (4, (.int .i64 0)), (1, p1), (0, p0)]) H4 K' =
  K' (FG 20 (fun _ => undef) [(4, (.int .i64 (-1))), (16, v5), (15, p1), (14, p0), (13, v3), (11, v1), (6, v3), (10, v3), (9, p1), (5, v1), (8, v1), (7, p0), (4, (.int .i64 0)), (1, p1), (0, p0)]) H4 := by kernel_rfl
theorem s112_11 : o112 0 call [1,1,1,1,1,1,0,0] 0 (FG 20 (fun _ => undef) [(16, v5), (15, p1), (14, p0), (13, v3), (11, v1), (6, v3), (10, v3), (9, p1), (5, v1), (8, v1), (7, p0), (4, (.int .i64 0)), (1, p1), (0, p0)]) H4 K' =
  onV ((oBin Try.prog .gtr 3 p0 p1).filter closed) fun v6 =>
  K' (FG 20 (fun _ => undef) [(19, v6), (18, p1), (17, p0), (16, v5), (15, p1), (14, p0), (13, v3), (11, v1), (6, v3), (10, v3), (9, p1), (5, v1), (8, v1), (7, p0), (4, (.int .i64 0)), (1, p1), (0, p0)]) H4 := by kernel_rfl
theorem s112_12 : o112 0 call [1,1,1,1,1,1,0,1,0,0] 0 (FG 20 (fun _ => undef) [(19, v6), (18, p1), (17, p0), (16, v5), (15, p1), (14, p0), (13, v3), (11, v1), (6, v3), (10, v3), (9, p1), (5, v1), (8, v1), (7, p0), (4, (.int .i64 0)), (1, p1), (0, p0)]) H4 K' =
  K' (FG 20 (fun _ => undef) [(4, (.int .i64 1)), (19, v6), (18, p1), (17, p0), (16, v5), (15, p1), (14, p0), (13, v3), (11, v1), (6, v3), (10, v3), (9, p1), (5, v1), (8, v1), (7, p0), (4, (.int .i64 0)), (1, p1), (0, p0)]) H4 := by kernel_rfl
theorem s112_13 : o112 0 call [1,1,1,1,1,1,1,0] 0 (FG 20 (fun _ => undef) [(19, v6), (18, p1), (17, p0), (16, v5), (15, p1), (14, p0), (13, v3), (11, v1), (6, v3), (10, v3), (9, p1), (5, v1), (8, v1), (7, p0), (4, (.int .i64 0)), (1, p1), (0, p0)]) H4 K' =
  K' (FG 20 (fun _ => undef) [(4, (.int .i64 0)), (19, v6), (18, p1), (17, p0), (16, v5), (15, p1), (14, p0), (13, v3), (11, v1), (6, v3), (10, v3), (9, p1), (5, v1), (8, v1), (7, p0), (4, (.int .i64 0)), (1, p1), (0, p0)]) H4 := by kernel_rfl
noncomputable def f112_sh (call : Handle) (k : Nat) (p0 p1 : Value) (H : GH) : M (Value × GH) :=
  onCall 0 call (.func (.func 164) #[] #[]) [p0] H fun v1 H2 =>
  onCall 0 call (.func (.func 164) #[] #[]) [p1] H2 fun v3 H4 =>
  onBool (asB v1)
  (onBool (asB v3)
  (some [((.int .i64 0), H4)])
  (some [((.int .i64 (-1)), H4)]))
  (onBool (asB v3)
  (some [((.int .i64 1), H4)])
  (onV ((oBin Try.prog .lss 3 p0 p1).filter closed) fun v5 =>
  onBool (asB v5)
  (some [((.int .i64 (-1)), H4)])
  (onV ((oBin Try.prog .gtr 3 p0 p1).filter closed) fun v6 =>
  onBool (asB v6)
  (some [((.int .i64 1), H4)])
  (some [((.int .i64 0), H4)]))))
theorem f112_run (call : Handle) (k : Nat) (p0 p1 : Value) (H : GH) : g112 call k [] (FG 20 (fun _ => undef) [(1, p1), (0, p0)]) H (hFin Try.prog Try.f112) = f112_sh call k p0 p1 H := by
  unfold f112_sh
  rw [n112_0]
  rw [n112_1]
  rw [s112_0]
  rw [hSeq_n]
  rw [n112_2]
  rw [n112_3]
  rw [s112_1]
  refine onCall_c fun v1 H2 => ?_
  rw [hSeq_n]
  rw [n112_4]
  rw [n112_5]
  rw [s112_2]
  refine onCall_c fun v3 H4 => ?_
  rw [hSeq_n]
  rw [n112_6]
  rw [n112_7]
  rw [n112_8]
  rw [s112_3]
  rw [hSeq_n]
  rw [n112_9]
  refine onBool_cc (by kernel_rfl) ?_ ?_
  · rw [n112_10]
    rw [n112_11]
    rw [n112_12]
    rw [s112_4]
    rw [hSeq_n]
    rw [n112_13]
    refine onBool_cc (by kernel_rfl) ?_ ?_
    · rw [n112_14]
      rw [n112_15]
      rw [s112_5]
      rw [hSeq_n]
      rw [n112_16]
      rw [hSeq_r, hSeq_r]
      kernel_rfl
    · rw [n112_17]
      rw [hSeq_n]
      rw [n112_18]
      rw [n112_19]
      rw [s112_6]
      rw [hSeq_n]
      rw [n112_20]
      rw [hSeq_r]
      kernel_rfl
  · rw [n112_21]
    rw [hSeq_n]
    rw [n112_22]
    rw [n112_23]
    rw [n112_24]
    rw [s112_7]
    rw [hSeq_n]
    rw [n112_25]
    refine onBool_cc (by kernel_rfl) ?_ ?_
    · rw [n112_26]
      rw [n112_27]
      rw [s112_8]
      rw [hSeq_n]
      rw [n112_28]
      rw [hSeq_r]
      kernel_rfl
    · rw [n112_29]
      rw [hSeq_n]
      rw [n112_30]
      rw [n112_31]
      rw [n112_32]
      rw [s112_9]
      refine onV_c fun v5 => ?_
      rw [hSeq_n]
      rw [n112_33]
      refine onBool_cc (by kernel_rfl) ?_ ?_
      · rw [n112_34]
        rw [n112_35]
        rw [s112_10]
        rw [hSeq_n]
        rw [n112_36]
        rw [hSeq_r]
        kernel_rfl
      · rw [n112_37]
        rw [hSeq_n]
        rw [n112_38]
        rw [n112_39]
        rw [n112_40]
        rw [s112_11]
        refine onV_c fun v6 => ?_
        rw [hSeq_n]
        rw [n112_41]
        refine onBool_cc (by kernel_rfl) ?_ ?_
        · rw [n112_42]
          rw [n112_43]
          rw [s112_12]
          rw [hSeq_n]
          rw [n112_44]
          rw [hSeq_r]
          kernel_rfl
        · rw [n112_45]
          rw [hSeq_n]
          rw [n112_46]
          rw [n112_47]
          rw [s112_13]
          rw [hSeq_n]
          rw [n112_48]
          kernel_rfl
theorem f112_eq (call : Handle) (k : Nat) (p0 p1 : Value) (H : GH) : gFunc Try.prog call k Try.f112 [p0, p1] H = f112_sh call k p0 p1 H :=
  Eq.trans (by kernel_rfl) (f112_run call k p0 p1 H)
end
noncomputable def g113 {β : Type} (call : Handle) (k : Nat) (p : List Nat) : GA → GH → Kont β → M β := gCode Try.prog call k (fAt Try.f113 p)
noncomputable def o113 {β : Type} (d : Nat) (call : Handle) (p : List Nat) (i : Nat) : GA → GH → (GA → GH → M β) → M β := gOps Try.prog d call (opsAt (fAt Try.f113 p)) ((opsAt (fAt Try.f113 p)).drop i)
noncomputable def t113 {β : Type} (d : Nat) (call : Handle) (p : List Nat) (i n : Nat) : GA → GH → (GA → GH → M β) → M β := gOps Try.prog d call (opsAt (fAt Try.f113 p)) (((opsAt (fAt Try.f113 p)).drop i).take n)
theorem o113_s {β : Type} {d : Nat} {call : Handle} {p : List Nat} {a : GA} {H : GH} {K : GA → GH → M β} (i n : Nat) : o113 d call p i a H K = t113 d call p i n a H fun a H => o113 d call p (i + n) a H K := gOps_split i n
section
variable {β : Type} {call : Handle} {k : Nat} {a : GA} {K : Kont β} {K' : GA → GH → M β}
variable {d : Nat → Value} {xg : Value}
variable {p0 : Value}
variable {H : GH}
theorem n113_0 : g113 call k [] a H K = g113 call k [0] a H (hSeq (g113 call k [1]) K) := at_seq (by kernel_rfl)
theorem n113_1 : g113 call k [0] a H K = o113 0 call [0] 0 a H (K .normal) := at_region (by kernel_rfl)
theorem n113_2 : g113 call k [1] a H K = g113 call k [1,0] a H (hSeq (g113 call k [1,1]) K) := at_seq (by kernel_rfl)
theorem n113_3 : g113 call k [1,0] a H K = o113 0 call [1,0] 0 a H (K .normal) := at_region (by kernel_rfl)
theorem n113_4 : g113 call k [1,1] a H K = K .ret a H := at_ret (by kernel_rfl)
theorem s113_0 : o113 0 call [0] 0 (FG 9 (fun _ => undef) [(0, p0)]) H K' =
  K' (FG 9 (fun _ => undef) [(2, (.slice none 0 0)), (0, p0)]) H := by kernel_rfl
theorem s113_1 : o113 0 call [1,0] 0 (FG 9 (fun _ => undef) [(2, (.slice none 0 0)), (0, p0)]) H K' =
  onV (oLen Try.prog 85 p0) fun v1 =>
  onV (oLen Try.prog 85 p0) fun v2 =>
  onV (oSlice Try.prog 85 p0 none (some v1) (some v2)) fun v3 =>
  K' (FG 9 (fun _ => undef) [(2, v3), (8, v3), (7, v2), (6, p0), (5, v1), (4, p0), (3, p0), (2, (.slice none 0 0)), (0, p0)]) H := by kernel_rfl
noncomputable def f113_sh (call : Handle) (k : Nat) (p0 : Value) (H : GH) : M (Value × GH) :=
  onV (oLen Try.prog 85 p0) fun v1 =>
  onV (oLen Try.prog 85 p0) fun v2 =>
  onV (oSlice Try.prog 85 p0 none (some v1) (some v2)) fun v3 =>
  some [(v3, H)]
theorem f113_run (call : Handle) (k : Nat) (p0 : Value) (H : GH) : g113 call k [] (FG 9 (fun _ => undef) [(0, p0)]) H (hFin Try.prog Try.f113) = f113_sh call k p0 H := by
  unfold f113_sh
  rw [n113_0]
  rw [n113_1]
  rw [s113_0]
  rw [hSeq_n]
  rw [n113_2]
  rw [n113_3]
  rw [s113_1]
  refine onV_c fun v1 => ?_
  refine onV_c fun v2 => ?_
  refine onV_c fun v3 => ?_
  rw [hSeq_n]
  rw [n113_4]
  kernel_rfl
theorem f113_eq (call : Handle) (k : Nat) (p0 : Value) (H : GH) : gFunc Try.prog call k Try.f113 [p0] H = f113_sh call k p0 H :=
  Eq.trans (by kernel_rfl) (f113_run call k p0 H)
end
noncomputable def g156 {β : Type} (call : Handle) (k : Nat) (p : List Nat) : GA → GH → Kont β → M β := gCode Try.prog call k (fAt Try.f156 p)
noncomputable def o156 {β : Type} (d : Nat) (call : Handle) (p : List Nat) (i : Nat) : GA → GH → (GA → GH → M β) → M β := gOps Try.prog d call (opsAt (fAt Try.f156 p)) ((opsAt (fAt Try.f156 p)).drop i)
noncomputable def t156 {β : Type} (d : Nat) (call : Handle) (p : List Nat) (i n : Nat) : GA → GH → (GA → GH → M β) → M β := gOps Try.prog d call (opsAt (fAt Try.f156 p)) (((opsAt (fAt Try.f156 p)).drop i).take n)
theorem o156_s {β : Type} {d : Nat} {call : Handle} {p : List Nat} {a : GA} {H : GH} {K : GA → GH → M β} (i n : Nat) : o156 d call p i a H K = t156 d call p i n a H fun a H => o156 d call p (i + n) a H K := gOps_split i n
section
variable {β : Type} {call : Handle} {k : Nat} {a : GA} {K : Kont β} {K' : GA → GH → M β}
variable {d : Nat → Value} {xg : Value}
variable {p0 : Value}
variable {v1 v2 v3 v4 : Value}
variable {H : GH}
theorem n156_0 : g156 call k [] a H K = g156 call k [0] a H (hSeq (g156 call k [1]) K) := at_seq (by kernel_rfl)
theorem n156_1 : g156 call k [0] a H K = o156 0 call [0] 0 a H (K .normal) := at_region (by kernel_rfl)
theorem n156_2 : g156 call k [1] a H K = g156 call k [1,0] a H (hSeq (g156 call k [1,1]) K) := at_seq (by kernel_rfl)
theorem n156_3 : g156 call k [1,0] a H K = o156 0 call [1,0] 0 a H (K .normal) := at_region (by kernel_rfl)
theorem n156_4 : g156 call k [1,1] a H K = g156 call k [1,1,0] a H (hSeq (g156 call k [1,1,1]) K) := at_seq (by kernel_rfl)
theorem n156_5 : g156 call k [1,1,0] a H K = g156 call k [1,1,0,0] a H (hSeq (g156 call k [1,1,0,1]) K) := at_seq (by kernel_rfl)
theorem n156_6 : g156 call k [1,1,0,0] a H K = o156 0 call [1,1,0,0] 0 a H (K .normal) := at_region (by kernel_rfl)
theorem n156_7 : g156 call k [1,1,0,1] a H K = g156 call k [1,1,0,1,0] a H (hBlock 0 K) := at_block (by kernel_rfl)
theorem n156_8 : g156 call k [1,1,0,1,0] a H K = gLoop (g156 call k [1,1,0,1,0,0]) K k a H := at_loop (by kernel_rfl)
theorem n156_9 : g156 call k [1,1,0,1,0,0] a H K = g156 call k [1,1,0,1,0,0,0] a H (hSeq (g156 call k [1,1,0,1,0,0,1]) K) := at_seq (by kernel_rfl)
theorem n156_10 : g156 call k [1,1,0,1,0,0,0] a H K = o156 0 call [1,1,0,1,0,0,0] 0 a H (K .normal) := at_region (by kernel_rfl)
theorem n156_11 : g156 call k [1,1,0,1,0,0,1] a H K = g156 call k [1,1,0,1,0,0,1,0] a H (hSeq (g156 call k [1,1,0,1,0,0,1,1]) K) := at_seq (by kernel_rfl)
theorem n156_12 : g156 call k [1,1,0,1,0,0,1,0] a H K = onBool (asB (GA.eval a (.tmp 9))) (g156 call k [1,1,0,1,0,0,1,0,0] a H K) (g156 call k [1,1,0,1,0,0,1,0,1] a H K) := at_cond (by kernel_rfl)
theorem n156_13 : g156 call k [1,1,0,1,0,0,1,0,0] a H K = K .normal a H := at_skip (by kernel_rfl)
theorem n156_14 : g156 call k [1,1,0,1,0,0,1,1] a H K = g156 call k [1,1,0,1,0,0,1,1,0] a H (hSeq (g156 call k [1,1,0,1,0,0,1,1,1]) K) := at_seq (by kernel_rfl)
theorem n156_15 : g156 call k [1,1,0,1,0,0,1,1,0] a H K = g156 call k [1,1,0,1,0,0,1,1,0,0] a H (hBlock 1 K) := at_block (by kernel_rfl)
theorem n156_16 : g156 call k [1,1,0,1,0,0,1,1,0,0] a H K = g156 call k [1,1,0,1,0,0,1,1,0,0,0] a H (hSeq (g156 call k [1,1,0,1,0,0,1,1,0,0,1]) K) := at_seq (by kernel_rfl)
theorem n156_17 : g156 call k [1,1,0,1,0,0,1,1,0,0,0] a H K = o156 0 call [1,1,0,1,0,0,1,1,0,0,0] 0 a H (K .normal) := at_region (by kernel_rfl)
theorem n156_18 : g156 call k [1,1,0,1,0,0,1,1,0,0,1] a H K = g156 call k [1,1,0,1,0,0,1,1,0,0,1,0] a H (hSeq (g156 call k [1,1,0,1,0,0,1,1,0,0,1,1]) K) := at_seq (by kernel_rfl)
theorem n156_19 : g156 call k [1,1,0,1,0,0,1,1,0,0,1,0] a H K = o156 0 call [1,1,0,1,0,0,1,1,0,0,1,0] 0 a H (K .normal) := at_region (by kernel_rfl)
theorem n156_20 : g156 call k [1,1,0,1,0,0,1,1,0,0,1,1] a H K = onBool (asB (GA.eval a (.tmp 14))) (g156 call k [1,1,0,1,0,0,1,1,0,0,1,1,0] a H K) (g156 call k [1,1,0,1,0,0,1,1,0,0,1,1,1] a H K) := at_cond (by kernel_rfl)
theorem n156_21 : g156 call k [1,1,0,1,0,0,1,1,0,0,1,1,0] a H K = g156 call k [1,1,0,1,0,0,1,1,0,0,1,1,0,0] a H (hSeq (g156 call k [1,1,0,1,0,0,1,1,0,0,1,1,0,1]) K) := at_seq (by kernel_rfl)
theorem n156_22 : g156 call k [1,1,0,1,0,0,1,1,0,0,1,1,0,0] a H K = o156 0 call [1,1,0,1,0,0,1,1,0,0,1,1,0,0] 0 a H (K .normal) := at_region (by kernel_rfl)
theorem n156_23 : g156 call k [1,1,0,1,0,0,1,1,0,0,1,1,0,1] a H K = K .ret a H := at_ret (by kernel_rfl)
theorem n156_24 : g156 call k [1,1,0,1,0,0,1,1,0,0,1,1,1] a H K = K .normal a H := at_skip (by kernel_rfl)
theorem n156_25 : g156 call k [1,1,0,1,0,0,1,1,1] a H K = o156 0 call [1,1,0,1,0,0,1,1,1] 0 a H (K .normal) := at_region (by kernel_rfl)
theorem n156_26 : g156 call k [1,1,0,1,0,0,1,0,1] a H K = K (.exit 0) a H := at_exit (by kernel_rfl)
theorem n156_27 : g156 call k [1,1,1] a H K = g156 call k [1,1,1,0] a H (hSeq (g156 call k [1,1,1,1]) K) := at_seq (by kernel_rfl)
theorem n156_28 : g156 call k [1,1,1,0] a H K = o156 0 call [1,1,1,0] 0 a H (K .normal) := at_region (by kernel_rfl)
theorem n156_29 : g156 call k [1,1,1,1] a H K = K .ret a H := at_ret (by kernel_rfl)
theorem s156_0 : o156 0 call [0] 0 (FG 18 (fun _ => undef) [(0, p0)]) H K' =
  K' (FG 18 (fun _ => undef) [(2, (.int .i64 0)), (0, p0)]) H := by kernel_rfl
theorem s156_1 : o156 0 call [1,0] 0 (FG 18 (fun _ => undef) [(2, (.int .i64 0)), (0, p0)]) H K' =
  K' (FG 18 (fun _ => undef) [(3, (.int .i64 0)), (2, (.int .i64 0)), (0, p0)]) H := by kernel_rfl
theorem s156_2 : o156 0 call [1,1,0,0] 0 (FG 18 (fun _ => undef) [(3, (.int .i64 0)), (2, (.int .i64 0)), (0, p0)]) H K' =
  onV (oLen Try.prog 71 p0) fun v1 =>
  K' (FG 18 (fun _ => undef) [(8, (.int .i64 0)), (7, v1), (6, p0), (3, (.int .i64 0)), (2, (.int .i64 0)), (0, p0)]) H := by kernel_rfl
theorem s156_3 : o156 0 call [1,1,0,1,0,0,0] 0 (FF 18 d) H K' =
  onV ((oBin Try.prog .lss 3 (d 8) (d 7)).filter closed) fun v1 =>
  K' (FG 18 d [(9, v1)]) H := by kernel_rfl
theorem s156_4 : o156 0 call [1,1,0,1,0,0,1,1,0,0,0] 0 (FG 18 d [(9, v1)]) H K' =
  onV (oIndexAddr Try.prog 71 (d 6) (d 8)) fun v2 =>
  onV (gLoad Try.prog 3 v2 H) fun v3 =>
  K' (FG 18 d [(5, v3), (11, v3), (10, v2), (9, v1)]) H := by kernel_rfl
theorem s156_5 : o156 0 call [1,1,0,1,0,0,1,1,0,0,1,0] 0 (FG 18 d [(5, v3), (11, v3), (10, v2), (9, v1)]) H K' =
  onV ((oBin Try.prog .neq 3 v3 (d 3)).filter closed) fun v4 =>
  K' (FG 18 d [(14, v4), (13, (d 3)), (12, v3), (5, v3), (11, v3), (10, v2), (9, v1)]) H := by kernel_rfl
theorem s156_6 : o156 0 call [1,1,0,1,0,0,1,1,0,0,1,1,0,0] 0 (FG 18 d [(14, v4), (13, (d 3)), (12, v3), (5, v3), (11, v3), (10, v2), (9, v1)]) H K' =
  K' (FG 18 d [(2, v3), (15, v3), (14, v4), (13, (d 3)), (12, v3), (5, v3), (11, v3), (10, v2), (9, v1)]) H := by kernel_rfl
theorem s156_7 : o156 0 call [1,1,0,1,0,0,1,1,1] 0 (FG 18 d [(14, v4), (13, (d 3)), (12, v3), (5, v3), (11, v3), (10, v2), (9, v1)]) H K' =
  onV ((oBin Try.prog .add 3 (d 8) (.int .i64 1)).filter closed) fun v5 =>
  K' (FG 18 d [(8, v5), (16, v5), (14, v4), (13, (d 3)), (12, v3), (5, v3), (11, v3), (10, v2), (9, v1)]) H := by kernel_rfl
theorem s156_8 : o156 0 call [1,1,1,0] 0 (FG 18 d [(9, v1)]) H K' =
  K' (FG 18 d [(2, (d 3)), (17, (d 3)), (9, v1)]) H := by kernel_rfl
def f156_l3_P (ag : AG) (sg : Sg4) : Prop := ∀ (d : Nat → Value) (H : GH), ag (FF 18 d) H = sg (d 3) (d 6) (d 7) (d 8) H
theorem f156_l3_at {ag : AG} {sg : Sg4} (h : f156_l3_P ag sg) : ag (FF 18 d) H = sg (d 3) (d 6) (d 7) (d 8) H := h d H
noncomputable def f156_l3b (call : Handle) (k : Nat) (sg_l3 : Sg4) (x3 x6 x7 x8 : Value) (H : GH) : M (Value × GH) :=
  onV ((oBin Try.prog .lss 3 x8 x7).filter closed) fun v1 =>
  onBool (asB v1)
  (onV (oIndexAddr Try.prog 71 x6 x8) fun v2 =>
  onV (gLoad Try.prog 3 v2 H) fun v3 =>
  onV ((oBin Try.prog .neq 3 v3 x3).filter closed) fun v4 =>
  onBool (asB v4)
  (some [(v3, H)])
  (onV ((oBin Try.prog .add 3 x8 (.int .i64 1)).filter closed) fun v5 =>
  (sg_l3 x3 x6 x7 v5 H)))
  (some [(x3, H)])
theorem f156_l3b_eq (call : Handle) (k : Nat) (ag_l3 : AG) (sg_l3 : Sg4) (h_l3 : f156_l3_P ag_l3 sg_l3) : g156 call k [1,1,0,1,0,0] (FF 18 d) H (hLoop ag_l3 (hBlock 0 (hSeq (g156 call k [1,1,1]) (hFin Try.prog Try.f156)))) = f156_l3b call k sg_l3 (d 3) (d 6) (d 7) (d 8) H := by
  unfold f156_l3b
  rw [n156_9]
  rw [n156_10]
  rw [s156_3]
  refine onV_c fun v1 => ?_
  rw [hSeq_n]
  rw [n156_11]
  rw [n156_12]
  refine onBool_cc (by kernel_rfl) ?_ ?_
  · rw [n156_13]
    rw [hSeq_n]
    rw [n156_14]
    rw [n156_15]
    rw [n156_16]
    rw [n156_17]
    rw [s156_4]
    refine onV_c fun v2 => ?_
    refine onV_c fun v3 => ?_
    rw [hSeq_n]
    rw [n156_18]
    rw [n156_19]
    rw [s156_5]
    refine onV_c fun v4 => ?_
    rw [hSeq_n]
    rw [n156_20]
    refine onBool_cc (by kernel_rfl) ?_ ?_
    · rw [n156_21]
      rw [n156_22]
      rw [s156_6]
      rw [hSeq_n]
      rw [n156_23]
      rw [hBlock_r, hSeq_r, hLoop_r, hBlock_r, hSeq_r]
      kernel_rfl
    · rw [n156_24]
      rw [hBlock_n]
      rw [hSeq_n]
      rw [n156_25]
      rw [s156_7]
      refine onV_c fun v5 => ?_
      rw [hLoop_n]
      generalize e : (FG 18 d [(8, v5), (16, v5), (14, v4), (13, (d 3)), (12, v3), (5, v3), (11, v3), (10, v2), (9, v1)]) = a
      rw [show a = (FF 18 (gf a)) from (FF_gf (by subst e; exact FG_len)).symm]
      exact (f156_l3_at (d := gf a) h_l3).trans (by subst e; kernel_rfl)
  · rw [n156_26]
    rw [hSeq_e, hLoop_e, hBlock_hit]
    rw [hSeq_n]
    rw [n156_27]
    rw [n156_28]
    rw [s156_8]
    rw [hSeq_n]
    rw [n156_29]
    kernel_rfl
noncomputable def f156_l3 (call : Handle) (k : Nat) : Nat → Value → Value → Value → Value → GH → M (Value × GH)
  | 0, _, _, _, _, _ => none
  | r + 1, x3, x6, x7, x8, H => f156_l3b call k (f156_l3 call k r) x3 x6 x7 x8 H
theorem f156_l3_eq (call : Handle) (k : Nat) : ∀ (r : Nat), f156_l3_P (gLoop (g156 call k [1,1,0,1,0,0]) (hBlock 0 (hSeq (g156 call k [1,1,1]) (hFin Try.prog Try.f156))) r) (f156_l3 call k r) := by
  intro r
  induction r with
  | zero => unfold f156_l3_P; intros; rfl
  | succ r ih => unfold f156_l3_P; intros; exact f156_l3b_eq call k _ _ ih
noncomputable def f156_sh (call : Handle) (k : Nat) (p0 : Value) (H : GH) : M (Value × GH) :=
  onV (oLen Try.prog 71 p0) fun v1 =>
  (f156_l3 call k k (.int .i64 0) p0 v1 (.int .i64 0) H)
theorem f156_run (call : Handle) (k : Nat) (p0 : Value) (H : GH) : g156 call k [] (FG 18 (fun _ => undef) [(0, p0)]) H (hFin Try.prog Try.f156) = f156_sh call k p0 H := by
  unfold f156_sh
  rw [n156_0]
  rw [n156_1]
  rw [s156_0]
  rw [hSeq_n]
  rw [n156_2]
  rw [n156_3]
  rw [s156_1]
  rw [hSeq_n]
  rw [n156_4]
  rw [n156_5]
  rw [n156_6]
  rw [s156_2]
  refine onV_c fun v1 => ?_
  rw [hSeq_n]
  rw [n156_7]
  rw [n156_8]
  generalize e : (FG 18 (fun _ => undef) [(8, (.int .i64 0)), (7, v1), (6, p0), (3, (.int .i64 0)), (2, (.int .i64 0)), (0, p0)]) = a
  rw [show a = (FF 18 (gf a)) from (FF_gf (by subst e; exact FG_len)).symm]
  exact (f156_l3_at (d := gf a) (f156_l3_eq call k k)).trans (by subst e; kernel_rfl)
theorem f156_eq (call : Handle) (k : Nat) (p0 : Value) (H : GH) : gFunc Try.prog call k Try.f156 [p0] H = f156_sh call k p0 H :=
  Eq.trans (by kernel_rfl) (f156_run call k p0 H)
end
noncomputable def g157 {β : Type} (call : Handle) (k : Nat) (p : List Nat) : GA → GH → Kont β → M β := gCode Try.prog call k (fAt Try.f157 p)
noncomputable def o157 {β : Type} (d : Nat) (call : Handle) (p : List Nat) (i : Nat) : GA → GH → (GA → GH → M β) → M β := gOps Try.prog d call (opsAt (fAt Try.f157 p)) ((opsAt (fAt Try.f157 p)).drop i)
noncomputable def t157 {β : Type} (d : Nat) (call : Handle) (p : List Nat) (i n : Nat) : GA → GH → (GA → GH → M β) → M β := gOps Try.prog d call (opsAt (fAt Try.f157 p)) (((opsAt (fAt Try.f157 p)).drop i).take n)
theorem o157_s {β : Type} {d : Nat} {call : Handle} {p : List Nat} {a : GA} {H : GH} {K : GA → GH → M β} (i n : Nat) : o157 d call p i a H K = t157 d call p i n a H fun a H => o157 d call p (i + n) a H K := gOps_split i n
section
variable {β : Type} {call : Handle} {k : Nat} {a : GA} {K : Kont β} {K' : GA → GH → M β}
variable {d : Nat → Value} {xg : Value}
variable {p0 : Value}
variable {H : GH}
theorem n157_0 : g157 call k [] a H K = g157 call k [0] a H (hSeq (g157 call k [1]) K) := at_seq (by kernel_rfl)
theorem n157_1 : g157 call k [0] a H K = o157 0 call [0] 0 a H (K .normal) := at_region (by kernel_rfl)
theorem n157_2 : g157 call k [1] a H K = g157 call k [1,0] a H (hSeq (g157 call k [1,1]) K) := at_seq (by kernel_rfl)
theorem n157_3 : g157 call k [1,0] a H K = o157 0 call [1,0] 0 a H (K .normal) := at_region (by kernel_rfl)
theorem n157_4 : g157 call k [1,1] a H K = K .ret a H := at_ret (by kernel_rfl)
theorem s157_0 : o157 0 call [0] 0 (FG 9 (fun _ => undef) [(0, p0)]) H K' =
  K' (FG 9 (fun _ => undef) [(2, (.slice none 0 0)), (0, p0)]) H := by kernel_rfl
theorem s157_1 : o157 0 call [1,0] 0 (FG 9 (fun _ => undef) [(2, (.slice none 0 0)), (0, p0)]) H K' =
  onV (oLen Try.prog 86 p0) fun v1 =>
  onV (oLen Try.prog 86 p0) fun v2 =>
  onV (oSlice Try.prog 86 p0 none (some v1) (some v2)) fun v3 =>
  K' (FG 9 (fun _ => undef) [(2, v3), (8, v3), (7, v2), (6, p0), (5, v1), (4, p0), (3, p0), (2, (.slice none 0 0)), (0, p0)]) H := by kernel_rfl
noncomputable def f157_sh (call : Handle) (k : Nat) (p0 : Value) (H : GH) : M (Value × GH) :=
  onV (oLen Try.prog 86 p0) fun v1 =>
  onV (oLen Try.prog 86 p0) fun v2 =>
  onV (oSlice Try.prog 86 p0 none (some v1) (some v2)) fun v3 =>
  some [(v3, H)]
theorem f157_run (call : Handle) (k : Nat) (p0 : Value) (H : GH) : g157 call k [] (FG 9 (fun _ => undef) [(0, p0)]) H (hFin Try.prog Try.f157) = f157_sh call k p0 H := by
  unfold f157_sh
  rw [n157_0]
  rw [n157_1]
  rw [s157_0]
  rw [hSeq_n]
  rw [n157_2]
  rw [n157_3]
  rw [s157_1]
  refine onV_c fun v1 => ?_
  refine onV_c fun v2 => ?_
  refine onV_c fun v3 => ?_
  rw [hSeq_n]
  rw [n157_4]
  kernel_rfl
theorem f157_eq (call : Handle) (k : Nat) (p0 : Value) (H : GH) : gFunc Try.prog call k Try.f157 [p0] H = f157_sh call k p0 H :=
  Eq.trans (by kernel_rfl) (f157_run call k p0 H)
end
noncomputable def g158 {β : Type} (call : Handle) (k : Nat) (p : List Nat) : GA → GH → Kont β → M β := gCode Try.prog call k (fAt Try.f158 p)
noncomputable def o158 {β : Type} (d : Nat) (call : Handle) (p : List Nat) (i : Nat) : GA → GH → (GA → GH → M β) → M β := gOps Try.prog d call (opsAt (fAt Try.f158 p)) ((opsAt (fAt Try.f158 p)).drop i)
noncomputable def t158 {β : Type} (d : Nat) (call : Handle) (p : List Nat) (i n : Nat) : GA → GH → (GA → GH → M β) → M β := gOps Try.prog d call (opsAt (fAt Try.f158 p)) (((opsAt (fAt Try.f158 p)).drop i).take n)
theorem o158_s {β : Type} {d : Nat} {call : Handle} {p : List Nat} {a : GA} {H : GH} {K : GA → GH → M β} (i n : Nat) : o158 d call p i a H K = t158 d call p i n a H fun a H => o158 d call p (i + n) a H K := gOps_split i n
section
variable {β : Type} {call : Handle} {k : Nat} {a : GA} {K : Kont β} {K' : GA → GH → M β}
variable {d : Nat → Value} {xg : Value}
variable {p0 : Value}
variable {v1 : Value}
variable {H : GH}
theorem n158_0 : g158 call k [] a H K = g158 call k [0] a H (hSeq (g158 call k [1]) K) := at_seq (by kernel_rfl)
theorem n158_1 : g158 call k [0] a H K = o158 0 call [0] 0 a H (K .normal) := at_region (by kernel_rfl)
theorem n158_2 : g158 call k [1] a H K = g158 call k [1,0] a H (hSeq (g158 call k [1,1]) K) := at_seq (by kernel_rfl)
theorem n158_3 : g158 call k [1,0] a H K = g158 call k [1,0,0] a H (hSeq (g158 call k [1,0,1]) K) := at_seq (by kernel_rfl)
theorem n158_4 : g158 call k [1,0,0] a H K = o158 0 call [1,0,0] 0 a H (K .normal) := at_region (by kernel_rfl)
theorem n158_5 : g158 call k [1,0,1] a H K = onBool (asB (GA.eval a (.tmp 4))) (g158 call k [1,0,1,0] a H K) (g158 call k [1,0,1,1] a H K) := at_cond (by kernel_rfl)
theorem n158_6 : g158 call k [1,0,1,0] a H K = g158 call k [1,0,1,0,0] a H (hSeq (g158 call k [1,0,1,0,1]) K) := at_seq (by kernel_rfl)
theorem n158_7 : g158 call k [1,0,1,0,0] a H K = o158 0 call [1,0,1,0,0] 0 a H (K .normal) := at_region (by kernel_rfl)
theorem n158_8 : g158 call k [1,0,1,0,1] a H K = K .ret a H := at_ret (by kernel_rfl)
theorem n158_9 : g158 call k [1,0,1,1] a H K = K .normal a H := at_skip (by kernel_rfl)
theorem n158_10 : g158 call k [1,1] a H K = g158 call k [1,1,0] a H (hSeq (g158 call k [1,1,1]) K) := at_seq (by kernel_rfl)
theorem n158_11 : g158 call k [1,1,0] a H K = o158 0 call [1,1,0] 0 a H (K .normal) := at_region (by kernel_rfl)
theorem n158_12 : g158 call k [1,1,1] a H K = K .ret a H := at_ret (by kernel_rfl)
theorem s158_0 : o158 0 call [0] 0 (FG 8 (fun _ => undef) [(0, p0)]) H K' =
  K' (FG 8 (fun _ => undef) [(2, (.slice none 0 0)), (0, p0)]) H := by kernel_rfl
theorem s158_1 : o158 0 call [1,0,0] 0 (FG 8 (fun _ => undef) [(2, (.slice none 0 0)), (0, p0)]) H K' =
  onV ((oBin Try.prog .eql 86 p0 (.slice none 0 0)).filter closed) fun v1 =>
  K' (FG 8 (fun _ => undef) [(4, v1), (3, p0), (2, (.slice none 0 0)), (0, p0)]) H := by kernel_rfl
theorem s158_2 : o158 0 call [1,0,1,0,0] 0 (FG 8 (fun _ => undef) [(4, v1), (3, p0), (2, (.slice none 0 0)), (0, p0)]) H K' =
  K' (FG 8 (fun _ => undef) [(2, (.slice none 0 0)), (4, v1), (3, p0), (2, (.slice none 0 0)), (0, p0)]) H := by kernel_rfl
theorem s158_3 : o158 0 call [1,1,0] 0 (FG 8 (fun _ => undef) [(4, v1), (3, p0), (2, (.slice none 0 0)), (0, p0)]) H K' =
  onVH (gBuildSlice Try.prog 86 0 [] H) fun v2 H3 =>
  onVH (gAppend Try.prog 86 86 v2 p0 H3) fun v4 H5 =>
  K' (FG 8 (fun _ => undef) [(2, v4), (7, v4), (6, p0), (5, v2), (4, v1), (3, p0), (2, (.slice none 0 0)), (0, p0)]) H5 := by kernel_rfl
noncomputable def f158_sh (call : Handle) (k : Nat) (p0 : Value) (H : GH) : M (Value × GH) :=
  onV ((oBin Try.prog .eql 86 p0 (.slice none 0 0)).filter closed) fun v1 =>
  onBool (asB v1)
  (some [((.slice none 0 0), H)])
  (onVH (gBuildSlice Try.prog 86 0 [] H) fun v2 H3 =>
  onVH (gAppend Try.prog 86 86 v2 p0 H3) fun v4 H5 =>
  some [(v4, H5)])
theorem f158_run (call : Handle) (k : Nat) (p0 : Value) (H : GH) : g158 call k [] (FG 8 (fun _ => undef) [(0, p0)]) H (hFin Try.prog Try.f158) = f158_sh call k p0 H := by
  unfold f158_sh
  rw [n158_0]
  rw [n158_1]
  rw [s158_0]
  rw [hSeq_n]
  rw [n158_2]
  rw [n158_3]
  rw [n158_4]
  rw [s158_1]
  refine onV_c fun v1 => ?_
  rw [hSeq_n]
  rw [n158_5]
  refine onBool_cc (by kernel_rfl) ?_ ?_
  · rw [n158_6]
    rw [n158_7]
    rw [s158_2]
    rw [hSeq_n]
    rw [n158_8]
    rw [hSeq_r]
    kernel_rfl
  · rw [n158_9]
    rw [hSeq_n]
    rw [n158_10]
    rw [n158_11]
    rw [s158_3]
    refine onVH_c fun v2 H3 => ?_
    refine onVH_c fun v4 H5 => ?_
    rw [hSeq_n]
    rw [n158_12]
    kernel_rfl
theorem f158_eq (call : Handle) (k : Nat) (p0 : Value) (H : GH) : gFunc Try.prog call k Try.f158 [p0] H = f158_sh call k p0 H :=
  Eq.trans (by kernel_rfl) (f158_run call k p0 H)
end
noncomputable def g159 {β : Type} (call : Handle) (k : Nat) (p : List Nat) : GA → GH → Kont β → M β := gCode Try.prog call k (fAt Try.f159 p)
noncomputable def o159 {β : Type} (d : Nat) (call : Handle) (p : List Nat) (i : Nat) : GA → GH → (GA → GH → M β) → M β := gOps Try.prog d call (opsAt (fAt Try.f159 p)) ((opsAt (fAt Try.f159 p)).drop i)
noncomputable def t159 {β : Type} (d : Nat) (call : Handle) (p : List Nat) (i n : Nat) : GA → GH → (GA → GH → M β) → M β := gOps Try.prog d call (opsAt (fAt Try.f159 p)) (((opsAt (fAt Try.f159 p)).drop i).take n)
theorem o159_s {β : Type} {d : Nat} {call : Handle} {p : List Nat} {a : GA} {H : GH} {K : GA → GH → M β} (i n : Nat) : o159 d call p i a H K = t159 d call p i n a H fun a H => o159 d call p (i + n) a H K := gOps_split i n
section
variable {β : Type} {call : Handle} {k : Nat} {a : GA} {K : Kont β} {K' : GA → GH → M β}
variable {d : Nat → Value} {xg : Value}
variable {p0 p1 : Value}
variable {v1 v2 v3 v4 : Value}
variable {H H5 : GH}
theorem n159_0 : g159 call k [] a H K = g159 call k [0] a H (hSeq (g159 call k [1]) K) := at_seq (by kernel_rfl)
theorem n159_1 : g159 call k [0] a H K = o159 0 call [0] 0 a H (K .normal) := at_region (by kernel_rfl)
theorem n159_2 : g159 call k [1] a H K = g159 call k [1,0] a H (hSeq (g159 call k [1,1]) K) := at_seq (by kernel_rfl)
theorem n159_3 : g159 call k [1,0] a H K = g159 call k [1,0,0] a H (hSeq (g159 call k [1,0,1]) K) := at_seq (by kernel_rfl)
theorem n159_4 : g159 call k [1,0,0] a H K = o159 0 call [1,0,0] 0 a H (K .normal) := at_region (by kernel_rfl)
theorem n159_5 : g159 call k [1,0,1] a H K = g159 call k [1,0,1,0] a H (hBlock 0 K) := at_block (by kernel_rfl)
theorem n159_6 : g159 call k [1,0,1,0] a H K = gLoop (g159 call k [1,0,1,0,0]) K k a H := at_loop (by kernel_rfl)
theorem n159_7 : g159 call k [1,0,1,0,0] a H K = g159 call k [1,0,1,0,0,0] a H (hSeq (g159 call k [1,0,1,0,0,1]) K) := at_seq (by kernel_rfl)
theorem n159_8 : g159 call k [1,0,1,0,0,0] a H K = o159 0 call [1,0,1,0,0,0] 0 a H (K .normal) := at_region (by kernel_rfl)
theorem n159_9 : g159 call k [1,0,1,0,0,1] a H K = g159 call k [1,0,1,0,0,1,0] a H (hSeq (g159 call k [1,0,1,0,0,1,1]) K) := at_seq (by kernel_rfl)
theorem n159_10 : g159 call k [1,0,1,0,0,1,0] a H K = onBool (asB (GA.eval a (.tmp 9))) (g159 call k [1,0,1,0,0,1,0,0] a H K) (g159 call k [1,0,1,0,0,1,0,1] a H K) := at_cond (by kernel_rfl)
theorem n159_11 : g159 call k [1,0,1,0,0,1,0,0] a H K = K .normal a H := at_skip (by kernel_rfl)
theorem n159_12 : g159 call k [1,0,1,0,0,1,1] a H K = g159 call k [1,0,1,0,0,1,1,0] a H (hSeq (g159 call k [1,0,1,0,0,1,1,1]) K) := at_seq (by kernel_rfl)
theorem n159_13 : g159 call k [1,0,1,0,0,1,1,0] a H K = g159 call k [1,0,1,0,0,1,1,0,0] a H (hBlock 1 K) := at_block (by kernel_rfl)
theorem n159_14 : g159 call k [1,0,1,0,0,1,1,0,0] a H K = g159 call k [1,0,1,0,0,1,1,0,0,0] a H (hSeq (g159 call k [1,0,1,0,0,1,1,0,0,1]) K) := at_seq (by kernel_rfl)
theorem n159_15 : g159 call k [1,0,1,0,0,1,1,0,0,0] a H K = o159 0 call [1,0,1,0,0,1,1,0,0,0] 0 a H (K .normal) := at_region (by kernel_rfl)
theorem n159_16 : g159 call k [1,0,1,0,0,1,1,0,0,1] a H K = g159 call k [1,0,1,0,0,1,1,0,0,1,0] a H (hSeq (g159 call k [1,0,1,0,0,1,1,0,0,1,1]) K) := at_seq (by kernel_rfl)
theorem n159_17 : g159 call k [1,0,1,0,0,1,1,0,0,1,0] a H K = o159 0 call [1,0,1,0,0,1,1,0,0,1,0] 0 a H (K .normal) := at_region (by kernel_rfl)
theorem n159_18 : g159 call k [1,0,1,0,0,1,1,0,0,1,1] a H K = onBool (asB (GA.eval a (.tmp 16))) (g159 call k [1,0,1,0,0,1,1,0,0,1,1,0] a H K) (g159 call k [1,0,1,0,0,1,1,0,0,1,1,1] a H K) := at_cond (by kernel_rfl)
theorem n159_19 : g159 call k [1,0,1,0,0,1,1,0,0,1,1,0] a H K = g159 call k [1,0,1,0,0,1,1,0,0,1,1,0,0] a H (hSeq (g159 call k [1,0,1,0,0,1,1,0,0,1,1,0,1]) K) := at_seq (by kernel_rfl)
theorem n159_20 : g159 call k [1,0,1,0,0,1,1,0,0,1,1,0,0] a H K = o159 0 call [1,0,1,0,0,1,1,0,0,1,1,0,0] 0 a H (K .normal) := at_region (by kernel_rfl)
theorem n159_21 : g159 call k [1,0,1,0,0,1,1,0,0,1,1,0,1] a H K = K .ret a H := at_ret (by kernel_rfl)
theorem n159_22 : g159 call k [1,0,1,0,0,1,1,0,0,1,1,1] a H K = K .normal a H := at_skip (by kernel_rfl)
theorem n159_23 : g159 call k [1,0,1,0,0,1,1,1] a H K = o159 0 call [1,0,1,0,0,1,1,1] 0 a H (K .normal) := at_region (by kernel_rfl)
theorem n159_24 : g159 call k [1,0,1,0,0,1,0,1] a H K = K (.exit 0) a H := at_exit (by kernel_rfl)
theorem n159_25 : g159 call k [1,1] a H K = g159 call k [1,1,0] a H (hSeq (g159 call k [1,1,1]) K) := at_seq (by kernel_rfl)
theorem n159_26 : g159 call k [1,1,0] a H K = o159 0 call [1,1,0] 0 a H (K .normal) := at_region (by kernel_rfl)
theorem n159_27 : g159 call k [1,1,1] a H K = K .ret a H := at_ret (by kernel_rfl)
theorem s159_0 : o159 0 call [0] 0 (FG 19 (fun _ => undef) [(1, p1), (0, p0)]) H K' =
  K' (FG 19 (fun _ => undef) [(4, (.int .i64 0)), (1, p1), (0, p0)]) H := by kernel_rfl
theorem s159_1 : o159 0 call [1,0,0] 0 (FG 19 (fun _ => undef) [(4, (.int .i64 0)), (1, p1), (0, p0)]) H K' =
  onV (oLen Try.prog 86 p0) fun v1 =>
  K' (FG 19 (fun _ => undef) [(8, (.int .i64 0)), (7, v1), (6, p0), (4, (.int .i64 0)), (1, p1), (0, p0)]) H := by kernel_rfl
theorem s159_2 : o159 0 call [1,0,1,0,0,0] 0 (FF 19 d) H K' =
  onV ((oBin Try.prog .lss 3 (d 8) (d 7)).filter closed) fun v1 =>
  K' (FG 19 d [(9, v1)]) H := by kernel_rfl
theorem s159_3 : o159 0 call [1,0,1,0,0,1,1,0,0,0] 0 (FG 19 d [(9, v1)]) H K' =
  K' (FG 19 d [(5, (d 8)), (10, (d 8)), (9, v1)]) H := by kernel_rfl
theorem s159_4 : o159 0 call [1,0,1,0,0,1,1,0,0,1,0] 0 (FG 19 d [(5, (d 8)), (10, (d 8)), (9, v1)]) H K' =
  onV (oIndexAddr Try.prog 86 (d 0) (d 8)) fun v2 =>
  onV (gLoad Try.prog 91 v2 H) fun v3 =>
  onCall 0 call (d 1) [v3] H fun v4 H5 =>
  K' (FG 19 d [(16, v4), (15, v3), (14, v2), (13, (d 8)), (12, (d 0)), (11, (d 1)), (5, (d 8)), (10, (d 8)), (9, v1)]) H5 := by kernel_rfl
theorem s159_5 : o159 0 call [1,0,1,0,0,1,1,0,0,1,1,0,0] 0 (FG 19 d [(16, v4), (15, v3), (14, v2), (13, (d 8)), (12, (d 0)), (11, (d 1)), (5, (d 8)), (10, (d 8)), (9, v1)]) H5 K' =
  K' (FG 19 d [(4, (d 8)), (17, (d 8)), (16, v4), (15, v3), (14, v2), (13, (d 8)), (12, (d 0)), (11, (d 1)), (5, (d 8)), (10, (d 8)), (9, v1)]) H5 := by kernel_rfl
theorem s159_6 : o159 0 call [1,0,1,0,0,1,1,1] 0 (FG 19 d [(16, v4), (15, v3), (14, v2), (13, (d 8)), (12, (d 0)), (11, (d 1)), (5, (d 8)), (10, (d 8)), (9, v1)]) H5 K' =
  onV ((oBin Try.prog .add 3 (d 8) (.int .i64 1)).filter closed) fun v6 =>
  K' (FG 19 d [(8, v6), (18, v6), (16, v4), (15, v3), (14, v2), (13, (d 8)), (12, (d 0)), (11, (d 1)), (5, (d 8)), (10, (d 8)), (9, v1)]) H5 := by kernel_rfl
theorem s159_7 : o159 0 call [1,1,0] 0 (FG 19 d [(9, v1)]) H K' =
  K' (FG 19 d [(4, (.int .i64 (-1))), (9, v1)]) H := by kernel_rfl
def f159_l2_P (ag : AG) (sg : Sg4) : Prop := ∀ (d : Nat → Value) (H : GH), ag (FF 19 d) H = sg (d 0) (d 1) (d 7) (d 8) H
theorem f159_l2_at {ag : AG} {sg : Sg4} (h : f159_l2_P ag sg) : ag (FF 19 d) H = sg (d 0) (d 1) (d 7) (d 8) H := h d H
noncomputable def f159_l2b (call : Handle) (k : Nat) (sg_l2 : Sg4) (x0 x1 x7 x8 : Value) (H : GH) : M (Value × GH) :=
  onV ((oBin Try.prog .lss 3 x8 x7).filter closed) fun v1 =>
  onBool (asB v1)
  (onV (oIndexAddr Try.prog 86 x0 x8) fun v2 =>
  onV (gLoad Try.prog 91 v2 H) fun v3 =>
  onCall 0 call x1 [v3] H fun v4 H5 =>
  onBool (asB v4)
  (some [(x8, H5)])
  (onV ((oBin Try.prog .add 3 x8 (.int .i64 1)).filter closed) fun v6 =>
  (sg_l2 x0 x1 x7 v6 H5)))
  (some [((.int .i64 (-1)), H)])
theorem f159_l2b_eq (call : Handle) (k : Nat) (ag_l2 : AG) (sg_l2 : Sg4) (h_l2 : f159_l2_P ag_l2 sg_l2) : g159 call k [1,0,1,0,0] (FF 19 d) H (hLoop ag_l2 (hBlock 0 (hSeq (g159 call k [1,1]) (hFin Try.prog Try.f159)))) = f159_l2b call k sg_l2 (d 0) (d 1) (d 7) (d 8) H := by
  unfold f159_l2b
  rw [n159_7]
  rw [n159_8]
  rw [s159_2]
  refine onV_c fun v1 => ?_
  rw [hSeq_n]
  rw [n159_9]
  rw [n159_10]
  refine onBool_cc (by kernel_rfl) ?_ ?_
  · rw [n159_11]
    rw [hSeq_n]
    rw [n159_12]
    rw [n159_13]
    rw [n159_14]
    rw [n159_15]
    rw [s159_3]
    rw [hSeq_n]
    rw [n159_16]
    rw [n159_17]
    rw [s159_4]
    refine onV_c fun v2 => ?_
    refine onV_c fun v3 => ?_
    refine onCall_c fun v4 H5 => ?_
    rw [hSeq_n]
    rw [n159_18]
    refine onBool_cc (by kernel_rfl) ?_ ?_
    · rw [n159_19]
      rw [n159_20]
      rw [s159_5]
      rw [hSeq_n]
      rw [n159_21]
      rw [hBlock_r, hSeq_r, hLoop_r, hBlock_r, hSeq_r]
      kernel_rfl
    · rw [n159_22]
      rw [hBlock_n]
      rw [hSeq_n]
      rw [n159_23]
      rw [s159_6]
      refine onV_c fun v6 => ?_
      rw [hLoop_n]
      generalize e : (FG 19 d [(8, v6), (18, v6), (16, v4), (15, v3), (14, v2), (13, (d 8)), (12, (d 0)), (11, (d 1)), (5, (d 8)), (10, (d 8)), (9, v1)]) = a
      rw [show a = (FF 19 (gf a)) from (FF_gf (by subst e; exact FG_len)).symm]
      exact (f159_l2_at (d := gf a) h_l2).trans (by subst e; kernel_rfl)
  · rw [n159_24]
    rw [hSeq_e, hLoop_e, hBlock_hit]
    rw [hSeq_n]
    rw [n159_25]
    rw [n159_26]
    rw [s159_7]
    rw [hSeq_n]
    rw [n159_27]
    kernel_rfl
noncomputable def f159_l2 (call : Handle) (k : Nat) : Nat → Value → Value → Value → Value → GH → M (Value × GH)
  | 0, _, _, _, _, _ => none
  | r + 1, x0, x1, x7, x8, H => f159_l2b call k (f159_l2 call k r) x0 x1 x7 x8 H
theorem f159_l2_eq (call : Handle) (k : Nat) : ∀ (r : Nat), f159_l2_P (gLoop (g159 call k [1,0,1,0,0]) (hBlock 0 (hSeq (g159 call k [1,1]) (hFin Try.prog Try.f159))) r) (f159_l2 call k r) := by
  intro r
  induction r with
  | zero => unfold f159_l2_P; intros; rfl
  | succ r ih => unfold f159_l2_P; intros; exact f159_l2b_eq call k _ _ ih
noncomputable def f159_sh (call : Handle) (k : Nat) (p0 p1 : Value) (H : GH) : M (Value × GH) :=
  onV (oLen Try.prog 86 p0) fun v1 =>
  (f159_l2 call k k p0 p1 v1 (.int .i64 0) H)
theorem f159_run (call : Handle) (k : Nat) (p0 p1 : Value) (H : GH) : g159 call k [] (FG 19 (fun _ => undef) [(1, p1), (0, p0)]) H (hFin Try.prog Try.f159) = f159_sh call k p0 p1 H := by
  unfold f159_sh
  rw [n159_0]
  rw [n159_1]
  rw [s159_0]
  rw [hSeq_n]
  rw [n159_2]
  rw [n159_3]
  rw [n159_4]
  rw [s159_1]
  refine onV_c fun v1 => ?_
  rw [hSeq_n]
  rw [n159_5]
  rw [n159_6]
  generalize e : (FG 19 (fun _ => undef) [(8, (.int .i64 0)), (7, v1), (6, p0), (4, (.int .i64 0)), (1, p1), (0, p0)]) = a
  rw [show a = (FF 19 (gf a)) from (FF_gf (by subst e; exact FG_len)).symm]
  exact (f159_l2_at (d := gf a) (f159_l2_eq call k k)).trans (by subst e; kernel_rfl)
theorem f159_eq (call : Handle) (k : Nat) (p0 p1 : Value) (H : GH) : gFunc Try.prog call k Try.f159 [p0, p1] H = f159_sh call k p0 p1 H :=
  Eq.trans (by kernel_rfl) (f159_run call k p0 p1 H)
end
noncomputable def g162 {β : Type} (call : Handle) (k : Nat) (p : List Nat) : GA → GH → Kont β → M β := gCode Try.prog call k (fAt Try.f162 p)
noncomputable def o162 {β : Type} (d : Nat) (call : Handle) (p : List Nat) (i : Nat) : GA → GH → (GA → GH → M β) → M β := gOps Try.prog d call (opsAt (fAt Try.f162 p)) ((opsAt (fAt Try.f162 p)).drop i)
noncomputable def t162 {β : Type} (d : Nat) (call : Handle) (p : List Nat) (i n : Nat) : GA → GH → (GA → GH → M β) → M β := gOps Try.prog d call (opsAt (fAt Try.f162 p)) (((opsAt (fAt Try.f162 p)).drop i).take n)
theorem o162_s {β : Type} {d : Nat} {call : Handle} {p : List Nat} {a : GA} {H : GH} {K : GA → GH → M β} (i n : Nat) : o162 d call p i a H K = t162 d call p i n a H fun a H => o162 d call p (i + n) a H K := gOps_split i n
section
variable {β : Type} {call : Handle} {k : Nat} {a : GA} {K : Kont β} {K' : GA → GH → M β}
variable {d : Nat → Value} {xg : Value}
variable {p0 p1 p2 : Value}
variable {v1 v2 v3 v4 : Value}
variable {H H3 : GH}
theorem n162_0 : g162 call k [] a H K = g162 call k [0] a H (hSeq (g162 call k [1]) K) := at_seq (by kernel_rfl)
theorem n162_1 : g162 call k [0] a H K = o162 0 call [0] 0 a H (K .normal) := at_region (by kernel_rfl)
theorem n162_2 : g162 call k [1] a H K = g162 call k [1,0] a H (hSeq (g162 call k [1,1]) K) := at_seq (by kernel_rfl)
theorem n162_3 : g162 call k [1,0] a H K = o162 0 call [1,0] 0 a H (K .normal) := at_region (by kernel_rfl)
theorem n162_4 : g162 call k [1,1] a H K = g162 call k [1,1,0] a H (hSeq (g162 call k [1,1,1]) K) := at_seq (by kernel_rfl)
theorem n162_5 : g162 call k [1,1,0] a H K = g162 call k [1,1,0,0] a H (hSeq (g162 call k [1,1,0,1]) K) := at_seq (by kernel_rfl)
theorem n162_6 : g162 call k [1,1,0,0] a H K = o162 0 call [1,1,0,0] 0 a H (K .normal) := at_region (by kernel_rfl)
theorem n162_7 : g162 call k [1,1,0,1] a H K = onBool (asB (GA.eval a (.tmp 16))) (g162 call k [1,1,0,1,0] a H K) (g162 call k [1,1,0,1,1] a H K) := at_cond (by kernel_rfl)
theorem n162_8 : g162 call k [1,1,0,1,0] a H K = g162 call k [1,1,0,1,0,0] a H (hSeq (g162 call k [1,1,0,1,0,1]) K) := at_seq (by kernel_rfl)
theorem n162_9 : g162 call k [1,1,0,1,0,0] a H K = o162 0 call [1,1,0,1,0,0] 0 a H (K .normal) := at_region (by kernel_rfl)
theorem n162_10 : g162 call k [1,1,0,1,0,1] a H K = K .ret a H := at_ret (by kernel_rfl)
theorem n162_11 : g162 call k [1,1,0,1,1] a H K = K .normal a H := at_skip (by kernel_rfl)
theorem n162_12 : g162 call k [1,1,1] a H K = g162 call k [1,1,1,0] a H (hSeq (g162 call k [1,1,1,1]) K) := at_seq (by kernel_rfl)
theorem n162_13 : g162 call k [1,1,1,0] a H K = o162 0 call [1,1,1,0] 0 a H (K .normal) := at_region (by kernel_rfl)
theorem n162_14 : g162 call k [1,1,1,1] a H K = g162 call k [1,1,1,1,0] a H (hSeq (g162 call k [1,1,1,1,1]) K) := at_seq (by kernel_rfl)
theorem n162_15 : g162 call k [1,1,1,1,0] a H K = o162 1 call [1,1,1,1,0] 0 a H (K .normal) := at_region (by kernel_rfl)
theorem n162_16 : g162 call k [1,1,1,1,1] a H K = g162 call k [1,1,1,1,1,0] a H (hSeq (g162 call k [1,1,1,1,1,1]) K) := at_seq (by kernel_rfl)
theorem n162_17 : g162 call k [1,1,1,1,1,0] a H K = o162 0 call [1,1,1,1,1,0] 0 a H (K .normal) := at_region (by kernel_rfl)
theorem n162_18 : g162 call k [1,1,1,1,1,1] a H K = g162 call k [1,1,1,1,1,1,0] a H (hSeq (g162 call k [1,1,1,1,1,1,1]) K) := at_seq (by kernel_rfl)
theorem n162_19 : g162 call k [1,1,1,1,1,1,0] a H K = o162 0 call [1,1,1,1,1,1,0] 0 a H (K .normal) := at_region (by kernel_rfl)
theorem n162_20 : g162 call k [1,1,1,1,1,1,1] a H K = K .ret a H := at_ret (by kernel_rfl)
theorem s162_0 : o162 0 call [0] 0 (FG 33 (fun _ => undef) [(2, p2), (1, p1), (0, p0)]) H K' =
  K' (FG 33 (fun _ => undef) [(6, (.slice none 0 0)), (2, p2), (1, p1), (0, p0)]) H := by kernel_rfl
theorem s162_1 : o162 0 call [1,0] 0 (FG 33 (fun _ => undef) [(6, (.slice none 0 0)), (2, p2), (1, p1), (0, p0)]) H K' =
  onV (oLen Try.prog 85 p0) fun v1 =>
  onV (oSlice Try.prog 85 p0 (some p1) (some p2) (some v1)) fun v2 =>
  K' (FG 33 (fun _ => undef) [(13, v2), (12, v1), (11, p0), (10, p2), (9, p1), (8, p0), (6, (.slice none 0 0)), (2, p2), (1, p1), (0, p0)]) H := by kernel_rfl
theorem s162_2 : o162 0 call [1,1,0,0] 0 (FG 33 (fun _ => undef) [(13, v2), (12, v1), (11, p0), (10, p2), (9, p1), (8, p0), (6, (.slice none 0 0)), (2, p2), (1, p1), (0, p0)]) H K' =
  onV ((oBin Try.prog .eql 3 p1 p2).filter closed) fun v3 =>
  K' (FG 33 (fun _ => undef) [(16, v3), (15, p2), (14, p1), (13, v2), (12, v1), (11, p0), (10, p2), (9, p1), (8, p0), (6, (.slice none 0 0)), (2, p2), (1, p1), (0, p0)]) H := by kernel_rfl
theorem s162_3 : o162 0 call [1,1,0,1,0,0] 0 (FG 33 (fun _ => undef) [(16, v3), (15, p2), (14, p1), (13, v2), (12, v1), (11, p0), (10, p2), (9, p1), (8, p0), (6, (.slice none 0 0)), (2, p2), (1, p1), (0, p0)]) H K' =
  K' (FG 33 (fun _ => undef) [(6, p0), (17, p0), (16, v3), (15, p2), (14, p1), (13, v2), (12, v1), (11, p0), (10, p2), (9, p1), (8, p0), (6, (.slice none 0 0)), (2, p2), (1, p1), (0, p0)]) H := by kernel_rfl
theorem s162_4 : o162 0 call [1,1,1,0] 0 (FG 33 (fun _ => undef) [(16, v3), (15, p2), (14, p1), (13, v2), (12, v1), (11, p0), (10, p2), (9, p1), (8, p0), (6, (.slice none 0 0)), (2, p2), (1, p1), (0, p0)]) H K' =
  onV (oLen Try.prog 85 p0) fun v4 =>
  K' (FG 33 (fun _ => undef) [(7, v4), (19, v4), (18, p0), (16, v3), (15, p2), (14, p1), (13, v2), (12, v1), (11, p0), (10, p2), (9, p1), (8, p0), (6, (.slice none 0 0)), (2, p2), (1, p1), (0, p0)]) H := by kernel_rfl
theorem s162_5 : o162 1 call [1,1,1,1,0] 0 (FG 33 (fun _ => undef) [(7, v4), (19, v4), (18, p0), (16, v3), (15, p2), (14, p1), (13, v2), (12, v1), (11, p0), (10, p2), (9, p1), (8, p0), (6, (.slice none 0 0)), (2, p2), (1, p1), (0, p0)]) H K' =
  onV (oSlice Try.prog 85 p0 none (some p1) none) fun v5 =>
  onV (oSlice Try.prog 85 p0 (some p2) none none) fun v6 =>
  onVH (gAppend Try.prog 85 85 v5 v6 H) fun v7 H8 =>
  K' (FG 33 (fun _ => undef) [(0, v7), (26, v7), (25, v6), (24, p2), (23, p0), (22, v5), (21, p1), (20, p0), (7, v4), (19, v4), (18, p0), (16, v3), (15, p2), (14, p1), (13, v2), (12, v1), (11, p0), (10, p2), (9, p1), (8, p0), (6, (.slice none 0 0)), (2, p2), (1, p1), (0, p0)]) H8 := by kernel_rfl
theorem s162_6 : o162 0 call [1,1,1,1,1,0] 0 (FF 33 d) H K' =
  onV (oLen Try.prog 85 (d 0)) fun v1 =>
  onV (oSlice Try.prog 85 (d 0) (some v1) (some (d 7)) none) fun v2 =>
  onH (gClear Try.prog 85 v2 H) fun H3 =>
  K' (FG 33 d [(31, v2), (30, (d 7)), (29, v1), (28, (d 0)), (27, (d 0))]) H3 := by kernel_rfl
theorem s162_7 : o162 0 call [1,1,1,1,1,1,0] 0 (FG 33 d [(31, v2), (30, (d 7)), (29, v1), (28, (d 0)), (27, (d 0))]) H3 K' =
  K' (FG 33 d [(6, (d 0)), (32, (d 0)), (31, v2), (30, (d 7)), (29, v1), (28, (d 0)), (27, (d 0))]) H3 := by kernel_rfl
noncomputable def f162_r6 (call : Handle) (k : Nat) (x0 x7 : Value) (H : GH) : M (Value × GH) :=
  onV (oLen Try.prog 85 x0) fun v1 =>
  onV (oSlice Try.prog 85 x0 (some v1) (some x7) none) fun v2 =>
  onH (gClear Try.prog 85 v2 H) fun H3 =>
  some [(x0, H3)]
theorem f162_r6_eq (call : Handle) (k : Nat) : g162 call k [1,1,1,1,1,0] (FF 33 d) H (hSeq (g162 call k [1,1,1,1,1,1]) (hFin Try.prog Try.f162)) = f162_r6 call k (d 0) (d 7) H := by
  unfold f162_r6
  rw [n162_17]
  rw [s162_6]
  refine onV_c fun v1 => ?_
  refine onV_c fun v2 => ?_
  refine onH_c fun H3 => ?_
  rw [hSeq_n]
  rw [n162_18]
  rw [n162_19]
  rw [s162_7]
  rw [hSeq_n]
  rw [n162_20]
  kernel_rfl
noncomputable def f162_sh (call : Handle) (k : Nat) (p0 p1 p2 : Value) (H : GH) : M (Value × GH) :=
  onV (oLen Try.prog 85 p0) fun v1 =>
  onV (oSlice Try.prog 85 p0 (some p1) (some p2) (some v1)) fun v2 =>
  onV ((oBin Try.prog .eql 3 p1 p2).filter closed) fun v3 =>
  onBool (asB v3)
  (some [(p0, H)])
  (onV (oLen Try.prog 85 p0) fun v4 =>
  onV (oSlice Try.prog 85 p0 none (some p1) none) fun v5 =>
  onV (oSlice Try.prog 85 p0 (some p2) none none) fun v6 =>
  onVH (gAppend Try.prog 85 85 v5 v6 H) fun v7 H8 =>
  (f162_r6 call k v7 v4 H8))
theorem f162_run (call : Handle) (k : Nat) (p0 p1 p2 : Value) (H : GH) : g162 call k [] (FG 33 (fun _ => undef) [(2, p2), (1, p1), (0, p0)]) H (hFin Try.prog Try.f162) = f162_sh call k p0 p1 p2 H := by
  unfold f162_sh
  rw [n162_0]
  rw [n162_1]
  rw [s162_0]
  rw [hSeq_n]
  rw [n162_2]
  rw [n162_3]
  rw [s162_1]
  refine onV_c fun v1 => ?_
  refine onV_c fun v2 => ?_
  rw [hSeq_n]
  rw [n162_4]
  rw [n162_5]
  rw [n162_6]
  rw [s162_2]
  refine onV_c fun v3 => ?_
  rw [hSeq_n]
  rw [n162_7]
  refine onBool_cc (by kernel_rfl) ?_ ?_
  · rw [n162_8]
    rw [n162_9]
    rw [s162_3]
    rw [hSeq_n]
    rw [n162_10]
    rw [hSeq_r]
    kernel_rfl
  · rw [n162_11]
    rw [hSeq_n]
    rw [n162_12]
    rw [n162_13]
    rw [s162_4]
    refine onV_c fun v4 => ?_
    rw [hSeq_n]
    rw [n162_14]
    rw [n162_15]
    rw [s162_5]
    refine onV_c fun v5 => ?_
    refine onV_c fun v6 => ?_
    refine onVH_c fun v7 H8 => ?_
    rw [hSeq_n]
    rw [n162_16]
    generalize e : (FG 33 (fun _ => undef) [(0, v7), (26, v7), (25, v6), (24, p2), (23, p0), (22, v5), (21, p1), (20, p0), (7, v4), (19, v4), (18, p0), (16, v3), (15, p2), (14, p1), (13, v2), (12, v1), (11, p0), (10, p2), (9, p1), (8, p0), (6, (.slice none 0 0)), (2, p2), (1, p1), (0, p0)]) = a
    rw [show a = (FF 33 (gf a)) from (FF_gf (by subst e; exact FG_len)).symm]
    exact (f162_r6_eq (d := gf a) call k).trans (by subst e; kernel_rfl)
theorem f162_eq (call : Handle) (k : Nat) (p0 p1 p2 : Value) (H : GH) : gFunc Try.prog call k Try.f162 [p0, p1, p2] H = f162_sh call k p0 p1 p2 H :=
  Eq.trans (by kernel_rfl) (f162_run call k p0 p1 p2 H)
end
noncomputable def g164 {β : Type} (call : Handle) (k : Nat) (p : List Nat) : GA → GH → Kont β → M β := gCode Try.prog call k (fAt Try.f164 p)
noncomputable def o164 {β : Type} (d : Nat) (call : Handle) (p : List Nat) (i : Nat) : GA → GH → (GA → GH → M β) → M β := gOps Try.prog d call (opsAt (fAt Try.f164 p)) ((opsAt (fAt Try.f164 p)).drop i)
noncomputable def t164 {β : Type} (d : Nat) (call : Handle) (p : List Nat) (i n : Nat) : GA → GH → (GA → GH → M β) → M β := gOps Try.prog d call (opsAt (fAt Try.f164 p)) (((opsAt (fAt Try.f164 p)).drop i).take n)
theorem o164_s {β : Type} {d : Nat} {call : Handle} {p : List Nat} {a : GA} {H : GH} {K : GA → GH → M β} (i n : Nat) : o164 d call p i a H K = t164 d call p i n a H fun a H => o164 d call p (i + n) a H K := gOps_split i n
section
variable {β : Type} {call : Handle} {k : Nat} {a : GA} {K : Kont β} {K' : GA → GH → M β}
variable {d : Nat → Value} {xg : Value}
variable {p0 : Value}
variable {H : GH}
theorem n164_0 : g164 call k [] a H K = g164 call k [0] a H (hSeq (g164 call k [1]) K) := at_seq (by kernel_rfl)
theorem n164_1 : g164 call k [0] a H K = o164 0 call [0] 0 a H (K .normal) := at_region (by kernel_rfl)
theorem n164_2 : g164 call k [1] a H K = g164 call k [1,0] a H (hSeq (g164 call k [1,1]) K) := at_seq (by kernel_rfl)
theorem n164_3 : g164 call k [1,0] a H K = o164 0 call [1,0] 0 a H (K .normal) := at_region (by kernel_rfl)
theorem n164_4 : g164 call k [1,1] a H K = K .ret a H := at_ret (by kernel_rfl)
theorem s164_0 : o164 0 call [0] 0 (FG 6 (fun _ => undef) [(0, p0)]) H K' =
  K' (FG 6 (fun _ => undef) [(2, (.bool false)), (0, p0)]) H := by kernel_rfl
theorem s164_1 : o164 0 call [1,0] 0 (FG 6 (fun _ => undef) [(2, (.bool false)), (0, p0)]) H K' =
  onV ((oBin Try.prog .neq 3 p0 p0).filter closed) fun v1 =>
  K' (FG 6 (fun _ => undef) [(2, v1), (5, v1), (4, p0), (3, p0), (2, (.bool false)), (0, p0)]) H := by kernel_rfl
noncomputable def f164_sh (call : Handle) (k : Nat) (p0 : Value) (H : GH) : M (Value × GH) :=
  onV ((oBin Try.prog .neq 3 p0 p0).filter closed) fun v1 =>
  some [(v1, H)]
theorem f164_run (call : Handle) (k : Nat) (p0 : Value) (H : GH) : g164 call k [] (FG 6 (fun _ => undef) [(0, p0)]) H (hFin Try.prog Try.f164) = f164_sh call k p0 H := by
  unfold f164_sh
  rw [n164_0]
  rw [n164_1]
  rw [s164_0]
  rw [hSeq_n]
  rw [n164_2]
  rw [n164_3]
  rw [s164_1]
  refine onV_c fun v1 => ?_
  rw [hSeq_n]
  rw [n164_4]
  kernel_rfl
theorem f164_eq (call : Handle) (k : Nat) (p0 : Value) (H : GH) : gFunc Try.prog call k Try.f164 [p0] H = f164_sh call k p0 H :=
  Eq.trans (by kernel_rfl) (f164_run call k p0 H)
end
end Go.Proofs.Ythicilkmjamefaa
