/- PRINTED by sh.py: shallow forms of functions of the program, each proved equal to what the ghost machine makes of its code. -/
import Derived.Test.YthicilkmjamefaaGlSh
import Derived.Test.YthicilkmjamefaaProg
namespace Go.Proofs.Ythicilkmjamefaa
open Go.Gh
set_option linter.unusedVariables false
set_option linter.unusedSimpArgs false
set_option maxRecDepth 100000
section
variable {β : Type} {call : Handle} {k : Nat} {a : GA} {K : Kont β} {K' : GA → GH → M β}
variable {x0 x1 x2 x3 x4 x5 x6 x7 x8 x9 x10 x11 x12 x13 x14 x15 x16 x17 x18 x19 x20 : Value}
variable {p0 : Value}
variable {H : GH}
theorem fin48_normal : hFin Try.prog Try.f48 .normal (x0::x1::x2::x3::x4::x5::x6::x7::x8::x9::x10::x11::x12::x13::x14::x15::x16::x17::x18::x19::x20::[]) H =
  some [(x2, H)] := by kernel_rfl
theorem fin48_ret : hFin Try.prog Try.f48 .ret (x0::x1::x2::x3::x4::x5::x6::x7::x8::x9::x10::x11::x12::x13::x14::x15::x16::x17::x18::x19::x20::[]) H =
  some [(x2, H)] := by kernel_rfl
theorem n48_0 : gCode Try.prog call k (fAt Try.f48 []) a H K = gCode Try.prog call k (fAt Try.f48 [0]) a H (hSeq (gCode Try.prog call k (fAt Try.f48 [1])) K) := at_seq (by kernel_rfl)
theorem n48_1 : gCode Try.prog call k (fAt Try.f48 [0]) a H K = gOps Try.prog 0 call (opsAt (fAt Try.f48 [0])) ((opsAt (fAt Try.f48 [0])).drop 0) a H (K .normal) := at_region (by kernel_rfl)
theorem n48_2 : gCode Try.prog call k (fAt Try.f48 [1]) a H K = gCode Try.prog call k (fAt Try.f48 [1,0]) a H (hSeq (gCode Try.prog call k (fAt Try.f48 [1,1])) K) := at_seq (by kernel_rfl)
theorem n48_3 : gCode Try.prog call k (fAt Try.f48 [1,0]) a H K = gOps Try.prog 0 call (opsAt (fAt Try.f48 [1,0])) ((opsAt (fAt Try.f48 [1,0])).drop 0) a H (K .normal) := at_region (by kernel_rfl)
theorem n48_4 : gCode Try.prog call k (fAt Try.f48 [1,1]) a H K = K .ret a H := at_ret (by kernel_rfl)
theorem s48_0 : gOps Try.prog 0 call (opsAt (fAt Try.f48 [0])) ((opsAt (fAt Try.f48 [0])).drop 0) (p0::undef::undef::undef::undef::undef::undef::undef::undef::undef::undef::undef::undef::undef::undef::undef::undef::undef::undef::undef::undef::[]) H K' =
  K' (p0::(.pointer (some ⟨H.n, 0, none⟩))::(.bool false)::undef::undef::undef::undef::undef::undef::undef::undef::undef::undef::undef::undef::undef::undef::undef::undef::undef::undef::[]) (GH.push H (.row (Value.cells p0).toList 29 false)) := by kernel_rfl
theorem s48_1 : gOps Try.prog 0 call (opsAt (fAt Try.f48 [1,0])) (((opsAt (fAt Try.f48 [1,0])).drop 0).take 4) (x0::x1::x2::x3::x4::x5::x6::x7::x8::x9::x10::x11::x12::x13::x14::x15::x16::x17::x18::x19::x20::[]) H K' =
  onV (oFieldAddr Try.prog 29 x1 0) fun v1 =>
  onV (gLoad Try.prog 5 v1 H) fun v2 =>
  onV ((oBin Try.prog .geq 5 v2 (.int .u8 1)).filter closed) fun v3 =>
  K' (x0::x1::x2::v1::v2::v3::v3::x7::x8::x9::x10::x11::x12::x13::x14::x15::x16::x17::x18::x19::x20::[]) H := by kernel_rfl
theorem s48_2 : gOps Try.prog 0 call (opsAt (fAt Try.f48 [1,0])) (((opsAt (fAt Try.f48 [1,0])).drop 4).take 5) (x0::x1::x2::x3::x4::x5::(.bool true)::x7::x8::x9::x10::x11::x12::x13::x14::x15::x16::x17::x18::x19::x20::[]) H K' =
  onV (oFieldAddr Try.prog 29 x1 0) fun v1 =>
  onV (gLoad Try.prog 5 v1 H) fun v2 =>
  onV ((oBin Try.prog .leq 5 v2 (.int .u8 6)).filter closed) fun v3 =>
  K' (x0::x1::x2::x3::x4::x5::(.bool true)::v1::v2::v3::v3::v3::x12::x13::x14::x15::x16::x17::x18::x19::x20::[]) H := by kernel_rfl
theorem s48_3 : gOps Try.prog 0 call (opsAt (fAt Try.f48 [1,0])) ((opsAt (fAt Try.f48 [1,0])).drop 4) (x0::x1::x2::x3::x4::x5::(.bool false)::x7::x8::x9::x10::x11::x12::x13::x14::x15::x16::x17::x18::x19::x20::[]) H K' =
  K' (x0::x1::(.bool false)::x3::x4::x5::(.bool false)::undef::undef::undef::(.bool false)::(.bool false)::undef::undef::undef::(.bool false)::(.bool false)::undef::undef::undef::(.bool false)::[]) H := by kernel_rfl
theorem s48_4 : gOps Try.prog 0 call (opsAt (fAt Try.f48 [1,0])) (((opsAt (fAt Try.f48 [1,0])).drop 9).take 5) (x0::x1::x2::x3::x4::x5::x6::x7::x8::x9::x10::(.bool true)::x12::x13::x14::x15::x16::x17::x18::x19::x20::[]) H K' =
  onV (oFieldAddr Try.prog 29 x1 1) fun v1 =>
  onV (gLoad Try.prog 3 v1 H) fun v2 =>
  onV ((oBin Try.prog .geq 3 v2 (.int .i64 0)).filter closed) fun v3 =>
  K' (x0::x1::x2::x3::x4::x5::x6::x7::x8::x9::x10::(.bool true)::v1::v2::v3::v3::v3::x17::x18::x19::x20::[]) H := by kernel_rfl
theorem s48_5 : gOps Try.prog 0 call (opsAt (fAt Try.f48 [1,0])) ((opsAt (fAt Try.f48 [1,0])).drop 9) (x0::x1::x2::x3::x4::x5::x6::x7::x8::x9::x10::(.bool false)::x12::x13::x14::x15::x16::x17::x18::x19::x20::[]) H K' =
  K' (x0::x1::(.bool false)::x3::x4::x5::x6::x7::x8::x9::x10::(.bool false)::undef::undef::undef::(.bool false)::(.bool false)::undef::undef::undef::(.bool false)::[]) H := by kernel_rfl
theorem s48_6 : gOps Try.prog 0 call (opsAt (fAt Try.f48 [1,0])) ((opsAt (fAt Try.f48 [1,0])).drop 14) (x0::x1::x2::x3::x4::x5::x6::x7::x8::x9::x10::x11::x12::x13::x14::x15::(.bool true)::x17::x18::x19::x20::[]) H K' =
  onV (oFieldAddr Try.prog 29 x1 1) fun v1 =>
  onV (gLoad Try.prog 3 v1 H) fun v2 =>
  onV ((oBin Try.prog .lss 3 v2 (.int .i64 2048)).filter closed) fun v3 =>
  K' (x0::x1::v3::x3::x4::x5::x6::x7::x8::x9::x10::x11::x12::x13::x14::x15::(.bool true)::v1::v2::v3::v3::[]) H := by kernel_rfl
theorem s48_7 : gOps Try.prog 0 call (opsAt (fAt Try.f48 [1,0])) ((opsAt (fAt Try.f48 [1,0])).drop 14) (x0::x1::x2::x3::x4::x5::x6::x7::x8::x9::x10::x11::x12::x13::x14::x15::(.bool false)::x17::x18::x19::x20::[]) H K' =
  K' (x0::x1::(.bool false)::x3::x4::x5::x6::x7::x8::x9::x10::x11::x12::x13::x14::x15::(.bool false)::undef::undef::undef::(.bool false)::[]) H := by kernel_rfl
noncomputable def f48_g1_14 (call : Handle) (k : Nat) (x16 : Value) (x1 : Value) (H : GH) : M (Value × GH) :=
 onBool (asB x16)
  (onV (oFieldAddr Try.prog 29 x1 1) fun v1 =>
  onV (gLoad Try.prog 3 v1 H) fun v2 =>
  onV ((oBin Try.prog .lss 3 v2 (.int .i64 2048)).filter closed) fun v3 =>
  some [(v3, H)])
  (some [((.bool false), H)])
theorem f48_g1_14_true (call : Handle) (k : Nat) : gOps Try.prog 0 call (opsAt (fAt Try.f48 [1,0])) ((opsAt (fAt Try.f48 [1,0])).drop 14) (x0::x1::x2::x3::x4::x5::x6::x7::x8::x9::x10::x11::x12::x13::x14::x15::(.bool true)::x17::x18::x19::x20::[]) H ((hSeq (gCode Try.prog call k (fAt Try.f48 [1,1])) (hFin Try.prog Try.f48)) .normal) =
  onV (oFieldAddr Try.prog 29 x1 1) fun v1 =>
  onV (gLoad Try.prog 3 v1 H) fun v2 =>
  onV ((oBin Try.prog .lss 3 v2 (.int .i64 2048)).filter closed) fun v3 =>
  some [(v3, H)] := by
  rw [s48_6]
  refine onV_c fun v1 => ?_
  refine onV_c fun v2 => ?_
  refine onV_c fun v3 => ?_
  rw [hSeq_n]
  rw [n48_4]
  exact fin48_ret
theorem f48_g1_14_false (call : Handle) (k : Nat) : gOps Try.prog 0 call (opsAt (fAt Try.f48 [1,0])) ((opsAt (fAt Try.f48 [1,0])).drop 14) (x0::x1::x2::x3::x4::x5::x6::x7::x8::x9::x10::x11::x12::x13::x14::x15::(.bool false)::x17::x18::x19::x20::[]) H ((hSeq (gCode Try.prog call k (fAt Try.f48 [1,1])) (hFin Try.prog Try.f48)) .normal) =
  some [((.bool false), H)] := by
  rw [s48_7]
  rw [hSeq_n]
  rw [n48_4]
  exact fin48_ret
theorem f48_g1_14_eq (call : Handle) (k : Nat) : gOps Try.prog 0 call (opsAt (fAt Try.f48 [1,0])) ((opsAt (fAt Try.f48 [1,0])).drop 14) (x0::x1::x2::x3::x4::x5::x6::x7::x8::x9::x10::x11::x12::x13::x14::x15::x16::x17::x18::x19::x20::[]) H ((hSeq (gCode Try.prog call k (fAt Try.f48 [1,1])) (hFin Try.prog Try.f48)) .normal) =
  f48_g1_14 call k x16 x1 H := by
  cases x16 with
  | bool b => cases b with
    | true => exact f48_g1_14_true call k
    | false => exact f48_g1_14_false call k
  | _ => kernel_rfl
noncomputable def f48_g1_9 (call : Handle) (k : Nat) (x11 : Value) (x1 : Value) (H : GH) : M (Value × GH) :=
 onBool (asB x11)
  (onV (oFieldAddr Try.prog 29 x1 1) fun v1 =>
  onV (gLoad Try.prog 3 v1 H) fun v2 =>
  onV ((oBin Try.prog .geq 3 v2 (.int .i64 0)).filter closed) fun v3 =>
  (f48_g1_14 call k v3 x1 H))
  (some [((.bool false), H)])
theorem f48_g1_9_true (call : Handle) (k : Nat) : gOps Try.prog 0 call (opsAt (fAt Try.f48 [1,0])) ((opsAt (fAt Try.f48 [1,0])).drop 9) (x0::x1::x2::x3::x4::x5::x6::x7::x8::x9::x10::(.bool true)::x12::x13::x14::x15::x16::x17::x18::x19::x20::[]) H ((hSeq (gCode Try.prog call k (fAt Try.f48 [1,1])) (hFin Try.prog Try.f48)) .normal) =
  onV (oFieldAddr Try.prog 29 x1 1) fun v1 =>
  onV (gLoad Try.prog 3 v1 H) fun v2 =>
  onV ((oBin Try.prog .geq 3 v2 (.int .i64 0)).filter closed) fun v3 =>
  (f48_g1_14 call k v3 x1 H) := by
  rw [gOps_split 9 5, s48_4]
  refine onV_c fun v1 => ?_
  refine onV_c fun v2 => ?_
  refine onV_c fun v3 => ?_
  exact f48_g1_14_eq call k
theorem f48_g1_9_false (call : Handle) (k : Nat) : gOps Try.prog 0 call (opsAt (fAt Try.f48 [1,0])) ((opsAt (fAt Try.f48 [1,0])).drop 9) (x0::x1::x2::x3::x4::x5::x6::x7::x8::x9::x10::(.bool false)::x12::x13::x14::x15::x16::x17::x18::x19::x20::[]) H ((hSeq (gCode Try.prog call k (fAt Try.f48 [1,1])) (hFin Try.prog Try.f48)) .normal) =
  some [((.bool false), H)] := by
  rw [s48_5]
  rw [hSeq_n]
  rw [n48_4]
  exact fin48_ret
theorem f48_g1_9_eq (call : Handle) (k : Nat) : gOps Try.prog 0 call (opsAt (fAt Try.f48 [1,0])) ((opsAt (fAt Try.f48 [1,0])).drop 9) (x0::x1::x2::x3::x4::x5::x6::x7::x8::x9::x10::x11::x12::x13::x14::x15::x16::x17::x18::x19::x20::[]) H ((hSeq (gCode Try.prog call k (fAt Try.f48 [1,1])) (hFin Try.prog Try.f48)) .normal) =
  f48_g1_9 call k x11 x1 H := by
  cases x11 with
  | bool b => cases b with
    | true => exact f48_g1_9_true call k
    | false => exact f48_g1_9_false call k
  | _ => kernel_rfl
noncomputable def f48_g1_4 (call : Handle) (k : Nat) (x6 : Value) (x1 : Value) (H : GH) : M (Value × GH) :=
 onBool (asB x6)
  (onV (oFieldAddr Try.prog 29 x1 0) fun v1 =>
  onV (gLoad Try.prog 5 v1 H) fun v2 =>
  onV ((oBin Try.prog .leq 5 v2 (.int .u8 6)).filter closed) fun v3 =>
  (f48_g1_9 call k v3 x1 H))
  (some [((.bool false), H)])
theorem f48_g1_4_true (call : Handle) (k : Nat) : gOps Try.prog 0 call (opsAt (fAt Try.f48 [1,0])) ((opsAt (fAt Try.f48 [1,0])).drop 4) (x0::x1::x2::x3::x4::x5::(.bool true)::x7::x8::x9::x10::x11::x12::x13::x14::x15::x16::x17::x18::x19::x20::[]) H ((hSeq (gCode Try.prog call k (fAt Try.f48 [1,1])) (hFin Try.prog Try.f48)) .normal) =
  onV (oFieldAddr Try.prog 29 x1 0) fun v1 =>
  onV (gLoad Try.prog 5 v1 H) fun v2 =>
  onV ((oBin Try.prog .leq 5 v2 (.int .u8 6)).filter closed) fun v3 =>
  (f48_g1_9 call k v3 x1 H) := by
  rw [gOps_split 4 5, s48_2]
  refine onV_c fun v1 => ?_
  refine onV_c fun v2 => ?_
  refine onV_c fun v3 => ?_
  exact f48_g1_9_eq call k
theorem f48_g1_4_false (call : Handle) (k : Nat) : gOps Try.prog 0 call (opsAt (fAt Try.f48 [1,0])) ((opsAt (fAt Try.f48 [1,0])).drop 4) (x0::x1::x2::x3::x4::x5::(.bool false)::x7::x8::x9::x10::x11::x12::x13::x14::x15::x16::x17::x18::x19::x20::[]) H ((hSeq (gCode Try.prog call k (fAt Try.f48 [1,1])) (hFin Try.prog Try.f48)) .normal) =
  some [((.bool false), H)] := by
  rw [s48_3]
  rw [hSeq_n]
  rw [n48_4]
  exact fin48_ret
theorem f48_g1_4_eq (call : Handle) (k : Nat) : gOps Try.prog 0 call (opsAt (fAt Try.f48 [1,0])) ((opsAt (fAt Try.f48 [1,0])).drop 4) (x0::x1::x2::x3::x4::x5::x6::x7::x8::x9::x10::x11::x12::x13::x14::x15::x16::x17::x18::x19::x20::[]) H ((hSeq (gCode Try.prog call k (fAt Try.f48 [1,1])) (hFin Try.prog Try.f48)) .normal) =
  f48_g1_4 call k x6 x1 H := by
  cases x6 with
  | bool b => cases b with
    | true => exact f48_g1_4_true call k
    | false => exact f48_g1_4_false call k
  | _ => kernel_rfl
noncomputable def f48_r1 (call : Handle) (k : Nat) (x1 : Value) (H : GH) : M (Value × GH) :=
  onV (oFieldAddr Try.prog 29 x1 0) fun v1 =>
  onV (gLoad Try.prog 5 v1 H) fun v2 =>
  onV ((oBin Try.prog .geq 5 v2 (.int .u8 1)).filter closed) fun v3 =>
  (f48_g1_4 call k v3 x1 H)
theorem f48_r1_eq (call : Handle) (k : Nat) : gCode Try.prog call k (fAt Try.f48 [1,0]) (x0::x1::x2::x3::x4::x5::x6::x7::x8::x9::x10::x11::x12::x13::x14::x15::x16::x17::x18::x19::x20::[]) H (hSeq (gCode Try.prog call k (fAt Try.f48 [1,1])) (hFin Try.prog Try.f48)) = f48_r1 call k x1 H := by
  unfold f48_r1
  rw [n48_3]
  rw [gOps_split 0 4, s48_1]
  refine onV_c fun v1 => ?_
  refine onV_c fun v2 => ?_
  refine onV_c fun v3 => ?_
  exact f48_g1_4_eq call k
noncomputable def f48_sh (call : Handle) (k : Nat) (p0 : Value) (H : GH) : M (Value × GH) :=
  (f48_r1 call k (.pointer (some ⟨H.n, 0, none⟩)) (GH.push H (.row (Value.cells p0).toList 29 false)))
theorem f48_run (call : Handle) (k : Nat) (p0 : Value) (H : GH) : gCode Try.prog call k (fAt Try.f48 []) (p0::undef::undef::undef::undef::undef::undef::undef::undef::undef::undef::undef::undef::undef::undef::undef::undef::undef::undef::undef::undef::[]) H (hFin Try.prog Try.f48) = f48_sh call k p0 H := by
  unfold f48_sh
  rw [n48_0]
  rw [n48_1]
  rw [s48_0]
  rw [hSeq_n]
  rw [n48_2]
  exact f48_r1_eq call k
theorem f48_eq (call : Handle) (k : Nat) (p0 : Value) (H : GH) : gFunc Try.prog call k Try.f48 [p0] H = f48_sh call k p0 H :=
  Eq.trans (by kernel_rfl) (f48_run call k p0 H)
end
section
variable {β : Type} {call : Handle} {k : Nat} {a : GA} {K : Kont β} {K' : GA → GH → M β}
variable {x0 x1 x2 x3 x4 x5 : Value}
variable {p0 : Value}
variable {H : GH}
theorem fin47_normal : hFin Try.prog Try.f47 .normal [x0, x1, x2, x3, x4, x5] H =
  some [(x2, H)] := by kernel_rfl
theorem fin47_ret : hFin Try.prog Try.f47 .ret [x0, x1, x2, x3, x4, x5] H =
  some [(x2, H)] := by kernel_rfl
theorem n47_0 : gCode Try.prog call k (fAt Try.f47 []) a H K = gCode Try.prog call k (fAt Try.f47 [0]) a H (hSeq (gCode Try.prog call k (fAt Try.f47 [1])) K) := at_seq (by kernel_rfl)
theorem n47_1 : gCode Try.prog call k (fAt Try.f47 [0]) a H K = gOps Try.prog 0 call (opsAt (fAt Try.f47 [0])) ((opsAt (fAt Try.f47 [0])).drop 0) a H (K .normal) := at_region (by kernel_rfl)
theorem n47_2 : gCode Try.prog call k (fAt Try.f47 [1]) a H K = gCode Try.prog call k (fAt Try.f47 [1,0]) a H (hSeq (gCode Try.prog call k (fAt Try.f47 [1,1])) K) := at_seq (by kernel_rfl)
theorem n47_3 : gCode Try.prog call k (fAt Try.f47 [1,0]) a H K = gOps Try.prog 0 call (opsAt (fAt Try.f47 [1,0])) ((opsAt (fAt Try.f47 [1,0])).drop 0) a H (K .normal) := at_region (by kernel_rfl)
theorem n47_4 : gCode Try.prog call k (fAt Try.f47 [1,1]) a H K = K .ret a H := at_ret (by kernel_rfl)
theorem s47_0 : gOps Try.prog 0 call (opsAt (fAt Try.f47 [0])) ((opsAt (fAt Try.f47 [0])).drop 0) [p0, undef, undef, undef, undef, undef] H K' =
  K' [p0, (.pointer (some ⟨H.n, 0, none⟩)), (.bool false), undef, undef, undef] (GH.push H (.row (Value.cells p0).toList 29 false)) := by kernel_rfl
theorem s47_1 : gOps Try.prog 0 call (opsAt (fAt Try.f47 [1,0])) ((opsAt (fAt Try.f47 [1,0])).drop 0) [p0, (.pointer (some ⟨H.n, 0, none⟩)), (.bool false), undef, undef, undef] (GH.push H (.row (Value.cells p0).toList 29 false)) K' =
  onV (gLoad Try.prog 29 (.pointer (some ⟨H.n, 0, none⟩)) (GH.push H (.row (Value.cells p0).toList 29 false))) fun v1 =>
  onCall 0 call (.func (.func 48) #[] #[]) [v1] (GH.push H (.row (Value.cells p0).toList 29 false)) fun v2 H3 =>
  onV ((oUn Try.prog .not v2).filter closed) fun v4 =>
  K' [p0, (.pointer (some ⟨H.n, 0, none⟩)), v4, v1, v2, v4] H3 := by kernel_rfl
noncomputable def f47_sh (call : Handle) (k : Nat) (p0 : Value) (H : GH) : M (Value × GH) :=
  onV (gLoad Try.prog 29 (.pointer (some ⟨H.n, 0, none⟩)) (GH.push H (.row (Value.cells p0).toList 29 false))) fun v1 =>
  onCall 0 call (.func (.func 48) #[] #[]) [v1] (GH.push H (.row (Value.cells p0).toList 29 false)) fun v2 H3 =>
  onV ((oUn Try.prog .not v2).filter closed) fun v4 =>
  some [(v4, H3)]
theorem f47_run (call : Handle) (k : Nat) (p0 : Value) (H : GH) : gCode Try.prog call k (fAt Try.f47 []) [p0, undef, undef, undef, undef, undef] H (hFin Try.prog Try.f47) = f47_sh call k p0 H := by
  unfold f47_sh
  rw [n47_0]
  rw [n47_1]
  rw [s47_0]
  rw [hSeq_n]
  rw [n47_2]
  rw [n47_3]
  rw [s47_1]
  refine onV_c fun v1 => ?_
  refine onCall_c fun v2 H3 => ?_
  refine onV_c fun v4 => ?_
  rw [hSeq_n]
  rw [n47_4]
  exact fin47_ret
theorem f47_eq (call : Handle) (k : Nat) (p0 : Value) (H : GH) : gFunc Try.prog call k Try.f47 [p0] H = f47_sh call k p0 H :=
  Eq.trans (by kernel_rfl) (f47_run call k p0 H)
end
section
variable {β : Type} {call : Handle} {k : Nat} {a : GA} {K : Kont β} {K' : GA → GH → M β}
variable {x0 x1 x2 x3 x4 x5 x6 x7 x8 x9 x10 x11 x12 x13 x14 x15 x16 x17 x18 : Value}
variable {p0 p1 : Value}
variable {v1 v2 v3 v4 : Value}
variable {H H5 : GH}
theorem fin118_normal : hFin Try.prog Try.f118 .normal (x0::x1::x2::x3::x4::x5::x6::x7::x8::x9::x10::x11::x12::x13::x14::x15::x16::x17::x18::[]) H =
  some [(x4, H)] := by kernel_rfl
theorem fin118_ret : hFin Try.prog Try.f118 .ret (x0::x1::x2::x3::x4::x5::x6::x7::x8::x9::x10::x11::x12::x13::x14::x15::x16::x17::x18::[]) H =
  some [(x4, H)] := by kernel_rfl
theorem n118_0 : gCode Try.prog call k (fAt Try.f118 []) a H K = gCode Try.prog call k (fAt Try.f118 [0]) a H (hSeq (gCode Try.prog call k (fAt Try.f118 [1])) K) := at_seq (by kernel_rfl)
theorem n118_1 : gCode Try.prog call k (fAt Try.f118 [0]) a H K = gOps Try.prog 0 call (opsAt (fAt Try.f118 [0])) ((opsAt (fAt Try.f118 [0])).drop 0) a H (K .normal) := at_region (by kernel_rfl)
theorem n118_2 : gCode Try.prog call k (fAt Try.f118 [1]) a H K = gCode Try.prog call k (fAt Try.f118 [1,0]) a H (hSeq (gCode Try.prog call k (fAt Try.f118 [1,1])) K) := at_seq (by kernel_rfl)
theorem n118_3 : gCode Try.prog call k (fAt Try.f118 [1,0]) a H K = gCode Try.prog call k (fAt Try.f118 [1,0,0]) a H (hSeq (gCode Try.prog call k (fAt Try.f118 [1,0,1])) K) := at_seq (by kernel_rfl)
theorem n118_4 : gCode Try.prog call k (fAt Try.f118 [1,0,0]) a H K = gOps Try.prog 0 call (opsAt (fAt Try.f118 [1,0,0])) ((opsAt (fAt Try.f118 [1,0,0])).drop 0) a H (K .normal) := at_region (by kernel_rfl)
theorem n118_5 : gCode Try.prog call k (fAt Try.f118 [1,0,1]) a H K = gCode Try.prog call k (fAt Try.f118 [1,0,1,0]) a H (hBlock 0 K) := at_block (by kernel_rfl)
theorem n118_6 : gCode Try.prog call k (fAt Try.f118 [1,0,1,0]) a H K = gLoop (gCode Try.prog call k (fAt Try.f118 [1,0,1,0,0])) K k a H := at_loop (by kernel_rfl)
theorem n118_7 : gCode Try.prog call k (fAt Try.f118 [1,0,1,0,0]) a H K = gCode Try.prog call k (fAt Try.f118 [1,0,1,0,0,0]) a H (hSeq (gCode Try.prog call k (fAt Try.f118 [1,0,1,0,0,1])) K) := at_seq (by kernel_rfl)
theorem n118_8 : gCode Try.prog call k (fAt Try.f118 [1,0,1,0,0,0]) a H K = gOps Try.prog 0 call (opsAt (fAt Try.f118 [1,0,1,0,0,0])) ((opsAt (fAt Try.f118 [1,0,1,0,0,0])).drop 0) a H (K .normal) := at_region (by kernel_rfl)
theorem n118_9 : gCode Try.prog call k (fAt Try.f118 [1,0,1,0,0,1]) a H K = gCode Try.prog call k (fAt Try.f118 [1,0,1,0,0,1,0]) a H (hSeq (gCode Try.prog call k (fAt Try.f118 [1,0,1,0,0,1,1])) K) := at_seq (by kernel_rfl)
theorem n118_10 : gCode Try.prog call k (fAt Try.f118 [1,0,1,0,0,1,0]) a H K = onBool (asB (GA.eval a (.tmp 9))) (gCode Try.prog call k (fAt Try.f118 [1,0,1,0,0,1,0,0]) a H K) (gCode Try.prog call k (fAt Try.f118 [1,0,1,0,0,1,0,1]) a H K) := at_cond (by kernel_rfl)
theorem n118_11 : gCode Try.prog call k (fAt Try.f118 [1,0,1,0,0,1,0,0]) a H K = K .normal a H := at_skip (by kernel_rfl)
theorem n118_12 : gCode Try.prog call k (fAt Try.f118 [1,0,1,0,0,1,1]) a H K = gCode Try.prog call k (fAt Try.f118 [1,0,1,0,0,1,1,0]) a H (hSeq (gCode Try.prog call k (fAt Try.f118 [1,0,1,0,0,1,1,1])) K) := at_seq (by kernel_rfl)
theorem n118_13 : gCode Try.prog call k (fAt Try.f118 [1,0,1,0,0,1,1,0]) a H K = gCode Try.prog call k (fAt Try.f118 [1,0,1,0,0,1,1,0,0]) a H (hBlock 1 K) := at_block (by kernel_rfl)
theorem n118_14 : gCode Try.prog call k (fAt Try.f118 [1,0,1,0,0,1,1,0,0]) a H K = gCode Try.prog call k (fAt Try.f118 [1,0,1,0,0,1,1,0,0,0]) a H (hSeq (gCode Try.prog call k (fAt Try.f118 [1,0,1,0,0,1,1,0,0,1])) K) := at_seq (by kernel_rfl)
theorem n118_15 : gCode Try.prog call k (fAt Try.f118 [1,0,1,0,0,1,1,0,0,0]) a H K = gOps Try.prog 0 call (opsAt (fAt Try.f118 [1,0,1,0,0,1,1,0,0,0])) ((opsAt (fAt Try.f118 [1,0,1,0,0,1,1,0,0,0])).drop 0) a H (K .normal) := at_region (by kernel_rfl)
theorem n118_16 : gCode Try.prog call k (fAt Try.f118 [1,0,1,0,0,1,1,0,0,1]) a H K = gCode Try.prog call k (fAt Try.f118 [1,0,1,0,0,1,1,0,0,1,0]) a H (hSeq (gCode Try.prog call k (fAt Try.f118 [1,0,1,0,0,1,1,0,0,1,1])) K) := at_seq (by kernel_rfl)
theorem n118_17 : gCode Try.prog call k (fAt Try.f118 [1,0,1,0,0,1,1,0,0,1,0]) a H K = gOps Try.prog 0 call (opsAt (fAt Try.f118 [1,0,1,0,0,1,1,0,0,1,0])) ((opsAt (fAt Try.f118 [1,0,1,0,0,1,1,0,0,1,0])).drop 0) a H (K .normal) := at_region (by kernel_rfl)
theorem n118_18 : gCode Try.prog call k (fAt Try.f118 [1,0,1,0,0,1,1,0,0,1,1]) a H K = onBool (asB (GA.eval a (.tmp 16))) (gCode Try.prog call k (fAt Try.f118 [1,0,1,0,0,1,1,0,0,1,1,0]) a H K) (gCode Try.prog call k (fAt Try.f118 [1,0,1,0,0,1,1,0,0,1,1,1]) a H K) := at_cond (by kernel_rfl)
theorem n118_19 : gCode Try.prog call k (fAt Try.f118 [1,0,1,0,0,1,1,0,0,1,1,0]) a H K = gCode Try.prog call k (fAt Try.f118 [1,0,1,0,0,1,1,0,0,1,1,0,0]) a H (hSeq (gCode Try.prog call k (fAt Try.f118 [1,0,1,0,0,1,1,0,0,1,1,0,1])) K) := at_seq (by kernel_rfl)
theorem n118_20 : gCode Try.prog call k (fAt Try.f118 [1,0,1,0,0,1,1,0,0,1,1,0,0]) a H K = gOps Try.prog 0 call (opsAt (fAt Try.f118 [1,0,1,0,0,1,1,0,0,1,1,0,0])) ((opsAt (fAt Try.f118 [1,0,1,0,0,1,1,0,0,1,1,0,0])).drop 0) a H (K .normal) := at_region (by kernel_rfl)
theorem n118_21 : gCode Try.prog call k (fAt Try.f118 [1,0,1,0,0,1,1,0,0,1,1,0,1]) a H K = K .ret a H := at_ret (by kernel_rfl)
theorem n118_22 : gCode Try.prog call k (fAt Try.f118 [1,0,1,0,0,1,1,0,0,1,1,1]) a H K = K .normal a H := at_skip (by kernel_rfl)
theorem n118_23 : gCode Try.prog call k (fAt Try.f118 [1,0,1,0,0,1,1,1]) a H K = gOps Try.prog 0 call (opsAt (fAt Try.f118 [1,0,1,0,0,1,1,1])) ((opsAt (fAt Try.f118 [1,0,1,0,0,1,1,1])).drop 0) a H (K .normal) := at_region (by kernel_rfl)
theorem n118_24 : gCode Try.prog call k (fAt Try.f118 [1,0,1,0,0,1,0,1]) a H K = K (.exit 0) a H := at_exit (by kernel_rfl)
theorem n118_25 : gCode Try.prog call k (fAt Try.f118 [1,1]) a H K = gCode Try.prog call k (fAt Try.f118 [1,1,0]) a H (hSeq (gCode Try.prog call k (fAt Try.f118 [1,1,1])) K) := at_seq (by kernel_rfl)
theorem n118_26 : gCode Try.prog call k (fAt Try.f118 [1,1,0]) a H K = gOps Try.prog 0 call (opsAt (fAt Try.f118 [1,1,0])) ((opsAt (fAt Try.f118 [1,1,0])).drop 0) a H (K .normal) := at_region (by kernel_rfl)
theorem n118_27 : gCode Try.prog call k (fAt Try.f118 [1,1,1]) a H K = K .ret a H := at_ret (by kernel_rfl)
theorem s118_0 : gOps Try.prog 0 call (opsAt (fAt Try.f118 [0])) ((opsAt (fAt Try.f118 [0])).drop 0) (p0::p1::undef::undef::undef::undef::undef::undef::undef::undef::undef::undef::undef::undef::undef::undef::undef::undef::undef::[]) H K' =
  K' (p0::p1::undef::undef::(.int .i64 0)::undef::undef::undef::undef::undef::undef::undef::undef::undef::undef::undef::undef::undef::undef::[]) H := by kernel_rfl
theorem s118_1 : gOps Try.prog 0 call (opsAt (fAt Try.f118 [1,0,0])) ((opsAt (fAt Try.f118 [1,0,0])).drop 0) (p0::p1::undef::undef::(.int .i64 0)::undef::undef::undef::undef::undef::undef::undef::undef::undef::undef::undef::undef::undef::undef::[]) H K' =
  onV (oLen Try.prog 26 p0) fun v1 =>
  K' (p0::p1::undef::undef::(.int .i64 0)::undef::p0::v1::(.int .i64 0)::undef::undef::undef::undef::undef::undef::undef::undef::undef::undef::[]) H := by kernel_rfl
theorem s118_2 : gOps Try.prog 0 call (opsAt (fAt Try.f118 [1,0,1,0,0,0])) ((opsAt (fAt Try.f118 [1,0,1,0,0,0])).drop 0) (x0::x1::x2::x3::x4::x5::x6::x7::x8::x9::x10::x11::x12::x13::x14::x15::x16::x17::x18::[]) H K' =
  onV ((oBin Try.prog .lss 3 x8 x7).filter closed) fun v1 =>
  K' (x0::x1::x2::x3::x4::x5::x6::x7::x8::v1::x10::x11::x12::x13::x14::x15::x16::x17::x18::[]) H := by kernel_rfl
theorem s118_3 : gOps Try.prog 0 call (opsAt (fAt Try.f118 [1,0,1,0,0,1,1,0,0,0])) ((opsAt (fAt Try.f118 [1,0,1,0,0,1,1,0,0,0])).drop 0) (x0::x1::x2::x3::x4::x5::x6::x7::x8::v1::x10::x11::x12::x13::x14::x15::x16::x17::x18::[]) H K' =
  K' (x0::x1::x2::x3::x4::x8::x6::x7::x8::v1::x8::x11::x12::x13::x14::x15::x16::x17::x18::[]) H := by kernel_rfl
theorem s118_4 : gOps Try.prog 0 call (opsAt (fAt Try.f118 [1,0,1,0,0,1,1,0,0,1,0])) ((opsAt (fAt Try.f118 [1,0,1,0,0,1,1,0,0,1,0])).drop 0) (x0::x1::x2::x3::x4::x8::x6::x7::x8::v1::x8::x11::x12::x13::x14::x15::x16::x17::x18::[]) H K' =
  onV (oIndexAddr Try.prog 26 x0 x8) fun v2 =>
  onV (gLoad Try.prog 29 v2 H) fun v3 =>
  onCall 0 call x1 [v3] H fun v4 H5 =>
  K' (x0::x1::x2::x3::x4::x8::x6::x7::x8::v1::x8::x1::x0::x8::v2::v3::v4::x17::x18::[]) H5 := by kernel_rfl
theorem s118_5 : gOps Try.prog 0 call (opsAt (fAt Try.f118 [1,0,1,0,0,1,1,0,0,1,1,0,0])) ((opsAt (fAt Try.f118 [1,0,1,0,0,1,1,0,0,1,1,0,0])).drop 0) (x0::x1::x2::x3::x4::x8::x6::x7::x8::v1::x8::x1::x0::x8::v2::v3::v4::x17::x18::[]) H5 K' =
  K' (x0::x1::x2::x3::x8::x8::x6::x7::x8::v1::x8::x1::x0::x8::v2::v3::v4::x8::x18::[]) H5 := by kernel_rfl
theorem s118_6 : gOps Try.prog 0 call (opsAt (fAt Try.f118 [1,0,1,0,0,1,1,1])) ((opsAt (fAt Try.f118 [1,0,1,0,0,1,1,1])).drop 0) (x0::x1::x2::x3::x4::x8::x6::x7::x8::v1::x8::x1::x0::x8::v2::v3::v4::x17::x18::[]) H5 K' =
  onV ((oBin Try.prog .add 3 x8 (.int .i64 1)).filter closed) fun v6 =>
  K' (x0::x1::x2::x3::x4::x8::x6::x7::v6::v1::x8::x1::x0::x8::v2::v3::v4::x17::v6::[]) H5 := by kernel_rfl
theorem s118_7 : gOps Try.prog 0 call (opsAt (fAt Try.f118 [1,1,0])) ((opsAt (fAt Try.f118 [1,1,0])).drop 0) (x0::x1::x2::x3::x4::x5::x6::x7::x8::v1::x10::x11::x12::x13::x14::x15::x16::x17::x18::[]) H K' =
  K' (x0::x1::x2::x3::(.int .i64 (-1))::x5::x6::x7::x8::v1::x10::x11::x12::x13::x14::x15::x16::x17::x18::[]) H := by kernel_rfl
def f118_l2_P (ag : GA → GH → M (Value × GH)) (sg : Value → Value → Value → Value → GH → M (Value × GH)) : Prop := ∀ (x0 x1 x2 x3 x4 x5 x6 x7 x8 x9 x10 x11 x12 x13 x14 x15 x16 x17 x18 : Value) (H : GH), ag (x0::x1::x2::x3::x4::x5::x6::x7::x8::x9::x10::x11::x12::x13::x14::x15::x16::x17::x18::[]) H = sg x0 x1 x7 x8 H
theorem f118_l2_at {ag : GA → GH → M (Value × GH)} {sg : Value → Value → Value → Value → GH → M (Value × GH)} (h : f118_l2_P ag sg) : ag (x0::x1::x2::x3::x4::x5::x6::x7::x8::x9::x10::x11::x12::x13::x14::x15::x16::x17::x18::[]) H = sg x0 x1 x7 x8 H := h x0 x1 x2 x3 x4 x5 x6 x7 x8 x9 x10 x11 x12 x13 x14 x15 x16 x17 x18 H
noncomputable def f118_l2b (call : Handle) (k : Nat) (sg_l2 : Value → Value → Value → Value → GH → M (Value × GH)) (x0 x1 x7 x8 : Value) (H : GH) : M (Value × GH) :=
  onV ((oBin Try.prog .lss 3 x8 x7).filter closed) fun v1 =>
  onBool (asB v1)
  (onV (oIndexAddr Try.prog 26 x0 x8) fun v2 =>
  onV (gLoad Try.prog 29 v2 H) fun v3 =>
  onCall 0 call x1 [v3] H fun v4 H5 =>
  onBool (asB v4)
  (some [(x8, H5)])
  (onV ((oBin Try.prog .add 3 x8 (.int .i64 1)).filter closed) fun v6 =>
  (sg_l2 x0 x1 x7 v6 H5)))
  (some [((.int .i64 (-1)), H)])
theorem f118_l2b_eq (call : Handle) (k : Nat) (ag_l2 : GA → GH → M (Value × GH)) (sg_l2 : Value → Value → Value → Value → GH → M (Value × GH)) (h_l2 : f118_l2_P ag_l2 sg_l2) : gCode Try.prog call k (fAt Try.f118 [1,0,1,0,0]) (x0::x1::x2::x3::x4::x5::x6::x7::x8::x9::x10::x11::x12::x13::x14::x15::x16::x17::x18::[]) H (hLoop ag_l2 (hBlock 0 (hSeq (gCode Try.prog call k (fAt Try.f118 [1,1])) (hFin Try.prog Try.f118)))) = f118_l2b call k sg_l2 x0 x1 x7 x8 H := by
  unfold f118_l2b
  rw [n118_7]
  rw [n118_8]
  rw [s118_2]
  refine onV_c fun v1 => ?_
  rw [hSeq_n]
  rw [n118_9]
  rw [n118_10]
  refine onBool_cc rfl ?_ ?_
  · rw [n118_11]
    rw [hSeq_n]
    rw [n118_12]
    rw [n118_13]
    rw [n118_14]
    rw [n118_15]
    rw [s118_3]
    rw [hSeq_n]
    rw [n118_16]
    rw [n118_17]
    rw [s118_4]
    refine onV_c fun v2 => ?_
    refine onV_c fun v3 => ?_
    refine onCall_c fun v4 H5 => ?_
    rw [hSeq_n]
    rw [n118_18]
    refine onBool_cc rfl ?_ ?_
    · rw [n118_19]
      rw [n118_20]
      rw [s118_5]
      rw [hSeq_n]
      rw [n118_21]
      rw [hBlock_r, hSeq_r, hLoop_r, hBlock_r, hSeq_r]
      exact fin118_ret
    · rw [n118_22]
      rw [hBlock_n]
      rw [hSeq_n]
      rw [n118_23]
      rw [s118_6]
      refine onV_c fun v6 => ?_
      rw [hLoop_n]
      exact f118_l2_at h_l2
  · rw [n118_24]
    rw [hSeq_e, hLoop_e, hBlock_hit]
    rw [hSeq_n]
    rw [n118_25]
    rw [n118_26]
    rw [s118_7]
    rw [hSeq_n]
    rw [n118_27]
    exact fin118_ret
noncomputable def f118_l2 (call : Handle) (k : Nat) : Nat → Value → Value → Value → Value → GH → M (Value × GH)
  | 0, _, _, _, _, _ => none
  | r + 1, x0, x1, x7, x8, H => f118_l2b call k (f118_l2 call k r) x0 x1 x7 x8 H
theorem f118_l2_eq (call : Handle) (k : Nat) : ∀ (r : Nat), f118_l2_P (gLoop (gCode Try.prog call k (fAt Try.f118 [1,0,1,0,0])) (hBlock 0 (hSeq (gCode Try.prog call k (fAt Try.f118 [1,1])) (hFin Try.prog Try.f118))) r) (f118_l2 call k r) := by
  intro r
  induction r with
  | zero => unfold f118_l2_P; intros; rfl
  | succ r ih => unfold f118_l2_P; intros; exact f118_l2b_eq call k _ _ ih
noncomputable def f118_sh (call : Handle) (k : Nat) (p0 p1 : Value) (H : GH) : M (Value × GH) :=
  onV (oLen Try.prog 26 p0) fun v1 =>
  (f118_l2 call k k p0 p1 v1 (.int .i64 0) H)
theorem f118_run (call : Handle) (k : Nat) (p0 p1 : Value) (H : GH) : gCode Try.prog call k (fAt Try.f118 []) (p0::p1::undef::undef::undef::undef::undef::undef::undef::undef::undef::undef::undef::undef::undef::undef::undef::undef::undef::[]) H (hFin Try.prog Try.f118) = f118_sh call k p0 p1 H := by
  unfold f118_sh
  rw [n118_0]
  rw [n118_1]
  rw [s118_0]
  rw [hSeq_n]
  rw [n118_2]
  rw [n118_3]
  rw [n118_4]
  rw [s118_1]
  refine onV_c fun v1 => ?_
  rw [hSeq_n]
  rw [n118_5]
  rw [n118_6]
  exact f118_l2_at (f118_l2_eq call k k)
theorem f118_eq (call : Handle) (k : Nat) (p0 p1 : Value) (H : GH) : gFunc Try.prog call k Try.f118 [p0, p1] H = f118_sh call k p0 p1 H :=
  Eq.trans (by kernel_rfl) (f118_run call k p0 p1 H)
end
section
variable {β : Type} {call : Handle} {k : Nat} {a : GA} {K : Kont β} {K' : GA → GH → M β}
variable {x0 x1 x2 x3 x4 x5 x6 x7 x8 : Value}
variable {p0 p1 : Value}
variable {H : GH}
theorem fin46_normal : hFin Try.prog Try.f46 .normal [x0, x1, x2, x3, x4, x5, x6, x7, x8] H =
  some [(x4, H)] := by kernel_rfl
theorem fin46_ret : hFin Try.prog Try.f46 .ret [x0, x1, x2, x3, x4, x5, x6, x7, x8] H =
  some [(x4, H)] := by kernel_rfl
theorem n46_0 : gCode Try.prog call k (fAt Try.f46 []) a H K = gCode Try.prog call k (fAt Try.f46 [0]) a H (hSeq (gCode Try.prog call k (fAt Try.f46 [1])) K) := at_seq (by kernel_rfl)
theorem n46_1 : gCode Try.prog call k (fAt Try.f46 [0]) a H K = gOps Try.prog 0 call (opsAt (fAt Try.f46 [0])) ((opsAt (fAt Try.f46 [0])).drop 0) a H (K .normal) := at_region (by kernel_rfl)
theorem n46_2 : gCode Try.prog call k (fAt Try.f46 [1]) a H K = gCode Try.prog call k (fAt Try.f46 [1,0]) a H (hSeq (gCode Try.prog call k (fAt Try.f46 [1,1])) K) := at_seq (by kernel_rfl)
theorem n46_3 : gCode Try.prog call k (fAt Try.f46 [1,0]) a H K = gOps Try.prog 0 call (opsAt (fAt Try.f46 [1,0])) ((opsAt (fAt Try.f46 [1,0])).drop 0) a H (K .normal) := at_region (by kernel_rfl)
theorem n46_4 : gCode Try.prog call k (fAt Try.f46 [1,1]) a H K = K .ret a H := at_ret (by kernel_rfl)
theorem s46_0 : gOps Try.prog 0 call (opsAt (fAt Try.f46 [0])) ((opsAt (fAt Try.f46 [0])).drop 0) [p0, p1, undef, undef, undef, undef, undef, undef, undef] H K' =
  K' [p0, p1, undef, undef, (.bool false), undef, undef, undef, undef] H := by kernel_rfl
theorem s46_1 : gOps Try.prog 0 call (opsAt (fAt Try.f46 [1,0])) ((opsAt (fAt Try.f46 [1,0])).drop 0) [p0, p1, undef, undef, (.bool false), undef, undef, undef, undef] H K' =
  onCall 0 call (.func (.func 118) #[] #[]) [p0, p1] H fun v1 H2 =>
  onV ((oBin Try.prog .geq 3 v1 (.int .i64 0)).filter closed) fun v3 =>
  K' [p0, p1, undef, undef, v3, p0, p1, v1, v3] H2 := by kernel_rfl
noncomputable def f46_sh (call : Handle) (k : Nat) (p0 p1 : Value) (H : GH) : M (Value × GH) :=
  onCall 0 call (.func (.func 118) #[] #[]) [p0, p1] H fun v1 H2 =>
  onV ((oBin Try.prog .geq 3 v1 (.int .i64 0)).filter closed) fun v3 =>
  some [(v3, H2)]
theorem f46_run (call : Handle) (k : Nat) (p0 p1 : Value) (H : GH) : gCode Try.prog call k (fAt Try.f46 []) [p0, p1, undef, undef, undef, undef, undef, undef, undef] H (hFin Try.prog Try.f46) = f46_sh call k p0 p1 H := by
  unfold f46_sh
  rw [n46_0]
  rw [n46_1]
  rw [s46_0]
  rw [hSeq_n]
  rw [n46_2]
  rw [n46_3]
  rw [s46_1]
  refine onCall_c fun v1 H2 => ?_
  refine onV_c fun v3 => ?_
  rw [hSeq_n]
  rw [n46_4]
  exact fin46_ret
theorem f46_eq (call : Handle) (k : Nat) (p0 p1 : Value) (H : GH) : gFunc Try.prog call k Try.f46 [p0, p1] H = f46_sh call k p0 p1 H :=
  Eq.trans (by kernel_rfl) (f46_run call k p0 p1 H)
end
section
variable {β : Type} {call : Handle} {k : Nat} {a : GA} {K : Kont β} {K' : GA → GH → M β}
variable {x0 x1 x2 x3 : Value}
variable {p0 : Value}
variable {H : GH}
theorem fin44_normal : hFin Try.prog Try.f44 .normal [x0, x1, x2, x3] H =
  some [(x2, H)] := by kernel_rfl
theorem fin44_ret : hFin Try.prog Try.f44 .ret [x0, x1, x2, x3] H =
  some [(x2, H)] := by kernel_rfl
theorem n44_0 : gCode Try.prog call k (fAt Try.f44 []) a H K = gCode Try.prog call k (fAt Try.f44 [0]) a H (hSeq (gCode Try.prog call k (fAt Try.f44 [1])) K) := at_seq (by kernel_rfl)
theorem n44_1 : gCode Try.prog call k (fAt Try.f44 [0]) a H K = gOps Try.prog 0 call (opsAt (fAt Try.f44 [0])) ((opsAt (fAt Try.f44 [0])).drop 0) a H (K .normal) := at_region (by kernel_rfl)
theorem n44_2 : gCode Try.prog call k (fAt Try.f44 [1]) a H K = gCode Try.prog call k (fAt Try.f44 [1,0]) a H (hSeq (gCode Try.prog call k (fAt Try.f44 [1,1])) K) := at_seq (by kernel_rfl)
theorem n44_3 : gCode Try.prog call k (fAt Try.f44 [1,0]) a H K = gOps Try.prog 0 call (opsAt (fAt Try.f44 [1,0])) ((opsAt (fAt Try.f44 [1,0])).drop 0) a H (K .normal) := at_region (by kernel_rfl)
theorem n44_4 : gCode Try.prog call k (fAt Try.f44 [1,1]) a H K = K .ret a H := at_ret (by kernel_rfl)
theorem s44_0 : gOps Try.prog 0 call (opsAt (fAt Try.f44 [0])) ((opsAt (fAt Try.f44 [0])).drop 0) [p0, undef, undef, undef] H K' =
  K' [p0, (.pointer (some ⟨H.n, 0, none⟩)), .nilFunc, undef] (GH.push H (.row (Value.cells p0).toList 24 false)) := by kernel_rfl
theorem s44_1 : gOps Try.prog 0 call (opsAt (fAt Try.f44 [1,0])) ((opsAt (fAt Try.f44 [1,0])).drop 0) [p0, (.pointer (some ⟨H.n, 0, none⟩)), .nilFunc, undef] (GH.push H (.row (Value.cells p0).toList 24 false)) K' =
  K' [p0, (.pointer (some ⟨H.n, 0, none⟩)), (.func (.func 117) #[] #[(.pointer (some ⟨H.n, 0, none⟩))]), (.func (.func 117) #[] #[(.pointer (some ⟨H.n, 0, none⟩))])] (GH.push H (.row (Value.cells p0).toList 24 false)) := by kernel_rfl
noncomputable def f44_sh (call : Handle) (k : Nat) (p0 : Value) (H : GH) : M (Value × GH) :=
  some [((.func (.func 117) #[] #[(.pointer (some ⟨H.n, 0, none⟩))]), (GH.push H (.row (Value.cells p0).toList 24 false)))]
theorem f44_run (call : Handle) (k : Nat) (p0 : Value) (H : GH) : gCode Try.prog call k (fAt Try.f44 []) [p0, undef, undef, undef] H (hFin Try.prog Try.f44) = f44_sh call k p0 H := by
  unfold f44_sh
  rw [n44_0]
  rw [n44_1]
  rw [s44_0]
  rw [hSeq_n]
  rw [n44_2]
  rw [n44_3]
  rw [s44_1]
  rw [hSeq_n]
  rw [n44_4]
  exact fin44_ret
theorem f44_eq (call : Handle) (k : Nat) (p0 : Value) (H : GH) : gFunc Try.prog call k Try.f44 [p0] H = f44_sh call k p0 H :=
  Eq.trans (by kernel_rfl) (f44_run call k p0 H)
end
section
variable {β : Type} {call : Handle} {k : Nat} {a : GA} {K : Kont β} {K' : GA → GH → M β}
variable {x0 x1 x2 x3 x4 x5 x6 x7 x8 x9 x10 x11 x12 x13 x14 x15 x16 x17 x18 x19 x20 x21 x22 x23 x24 x25 x26 x27 x28 x29 x30 x31 x32 x33 x34 x35 x36 : Value}
variable {p0 p1 : Value}
variable {v1 v2 v3 v4 v5 v6 v8 : Value}
variable {H H7 : GH}
theorem fin117_normal : hFin Try.prog Try.f117 .normal (x0::x1::x2::x3::x4::x5::x6::x7::x8::x9::x10::x11::x12::x13::x14::x15::x16::x17::x18::x19::x20::x21::x22::x23::x24::x25::x26::x27::x28::x29::x30::x31::x32::x33::x34::x35::x36::[]) H =
  some [((.tuple #[]), H)] := by kernel_rfl
theorem fin117_ret : hFin Try.prog Try.f117 .ret (x0::x1::x2::x3::x4::x5::x6::x7::x8::x9::x10::x11::x12::x13::x14::x15::x16::x17::x18::x19::x20::x21::x22::x23::x24::x25::x26::x27::x28::x29::x30::x31::x32::x33::x34::x35::x36::[]) H =
  some [((.tuple #[]), H)] := by kernel_rfl
theorem n117_0 : gCode Try.prog call k (fAt Try.f117 []) a H K = gCode Try.prog call k (fAt Try.f117 [0]) a H (hSeq (gCode Try.prog call k (fAt Try.f117 [1])) K) := at_seq (by kernel_rfl)
theorem n117_1 : gCode Try.prog call k (fAt Try.f117 [0]) a H K = gOps Try.prog 0 call (opsAt (fAt Try.f117 [0])) ((opsAt (fAt Try.f117 [0])).drop 0) a H (K .normal) := at_region (by kernel_rfl)
theorem n117_2 : gCode Try.prog call k (fAt Try.f117 [1]) a H K = gCode Try.prog call k (fAt Try.f117 [1,0]) a H (hBlock 0 K) := at_block (by kernel_rfl)
theorem n117_3 : gCode Try.prog call k (fAt Try.f117 [1,0]) a H K = gLoop (gCode Try.prog call k (fAt Try.f117 [1,0,0])) K k a H := at_loop (by kernel_rfl)
theorem n117_4 : gCode Try.prog call k (fAt Try.f117 [1,0,0]) a H K = gCode Try.prog call k (fAt Try.f117 [1,0,0,0]) a H (hSeq (gCode Try.prog call k (fAt Try.f117 [1,0,0,1])) K) := at_seq (by kernel_rfl)
theorem n117_5 : gCode Try.prog call k (fAt Try.f117 [1,0,0,0]) a H K = gOps Try.prog 0 call (opsAt (fAt Try.f117 [1,0,0,0])) ((opsAt (fAt Try.f117 [1,0,0,0])).drop 0) a H (K .normal) := at_region (by kernel_rfl)
theorem n117_6 : gCode Try.prog call k (fAt Try.f117 [1,0,0,1]) a H K = gCode Try.prog call k (fAt Try.f117 [1,0,0,1,0]) a H (hSeq (gCode Try.prog call k (fAt Try.f117 [1,0,0,1,1])) K) := at_seq (by kernel_rfl)
theorem n117_7 : gCode Try.prog call k (fAt Try.f117 [1,0,0,1,0]) a H K = onBool (asB (GA.eval a (.tmp 13))) (gCode Try.prog call k (fAt Try.f117 [1,0,0,1,0,0]) a H K) (gCode Try.prog call k (fAt Try.f117 [1,0,0,1,0,1]) a H K) := at_cond (by kernel_rfl)
theorem n117_8 : gCode Try.prog call k (fAt Try.f117 [1,0,0,1,0,0]) a H K = K .normal a H := at_skip (by kernel_rfl)
theorem n117_9 : gCode Try.prog call k (fAt Try.f117 [1,0,0,1,1]) a H K = gCode Try.prog call k (fAt Try.f117 [1,0,0,1,1,0]) a H (hSeq (gCode Try.prog call k (fAt Try.f117 [1,0,0,1,1,1])) K) := at_seq (by kernel_rfl)
theorem n117_10 : gCode Try.prog call k (fAt Try.f117 [1,0,0,1,1,0]) a H K = gCode Try.prog call k (fAt Try.f117 [1,0,0,1,1,0,0]) a H (hBlock 1 K) := at_block (by kernel_rfl)
theorem n117_11 : gCode Try.prog call k (fAt Try.f117 [1,0,0,1,1,0,0]) a H K = gCode Try.prog call k (fAt Try.f117 [1,0,0,1,1,0,0,0]) a H (hSeq (gCode Try.prog call k (fAt Try.f117 [1,0,0,1,1,0,0,1])) K) := at_seq (by kernel_rfl)
theorem n117_12 : gCode Try.prog call k (fAt Try.f117 [1,0,0,1,1,0,0,0]) a H K = gOps Try.prog 0 call (opsAt (fAt Try.f117 [1,0,0,1,1,0,0,0])) ((opsAt (fAt Try.f117 [1,0,0,1,1,0,0,0])).drop 0) a H (K .normal) := at_region (by kernel_rfl)
theorem n117_13 : gCode Try.prog call k (fAt Try.f117 [1,0,0,1,1,0,0,1]) a H K = gCode Try.prog call k (fAt Try.f117 [1,0,0,1,1,0,0,1,0]) a H (hSeq (gCode Try.prog call k (fAt Try.f117 [1,0,0,1,1,0,0,1,1])) K) := at_seq (by kernel_rfl)
theorem n117_14 : gCode Try.prog call k (fAt Try.f117 [1,0,0,1,1,0,0,1,0]) a H K = gOps Try.prog 0 call (opsAt (fAt Try.f117 [1,0,0,1,1,0,0,1,0])) ((opsAt (fAt Try.f117 [1,0,0,1,1,0,0,1,0])).drop 0) a H (K .normal) := at_region (by kernel_rfl)
theorem n117_15 : gCode Try.prog call k (fAt Try.f117 [1,0,0,1,1,0,0,1,1]) a H K = gCode Try.prog call k (fAt Try.f117 [1,0,0,1,1,0,0,1,1,0]) a H (hBlock 2 K) := at_block (by kernel_rfl)
theorem n117_16 : gCode Try.prog call k (fAt Try.f117 [1,0,0,1,1,0,0,1,1,0]) a H K = gLoop (gCode Try.prog call k (fAt Try.f117 [1,0,0,1,1,0,0,1,1,0,0])) K k a H := at_loop (by kernel_rfl)
theorem n117_17 : gCode Try.prog call k (fAt Try.f117 [1,0,0,1,0,1]) a H K = K (.exit 0) a H := at_exit (by kernel_rfl)
theorem n117_18 : gCode Try.prog call k (fAt Try.f117 [1,0,0,1,1,0,0,1,1,0,0]) a H K = gCode Try.prog call k (fAt Try.f117 [1,0,0,1,1,0,0,1,1,0,0,0]) a H (hSeq (gCode Try.prog call k (fAt Try.f117 [1,0,0,1,1,0,0,1,1,0,0,1])) K) := at_seq (by kernel_rfl)
theorem n117_19 : gCode Try.prog call k (fAt Try.f117 [1,0,0,1,1,0,0,1,1,0,0,0]) a H K = gOps Try.prog 0 call (opsAt (fAt Try.f117 [1,0,0,1,1,0,0,1,1,0,0,0])) ((opsAt (fAt Try.f117 [1,0,0,1,1,0,0,1,1,0,0,0])).drop 0) a H (K .normal) := at_region (by kernel_rfl)
theorem n117_20 : gCode Try.prog call k (fAt Try.f117 [1,0,0,1,1,0,0,1,1,0,0,1]) a H K = gCode Try.prog call k (fAt Try.f117 [1,0,0,1,1,0,0,1,1,0,0,1,0]) a H (hSeq (gCode Try.prog call k (fAt Try.f117 [1,0,0,1,1,0,0,1,1,0,0,1,1])) K) := at_seq (by kernel_rfl)
theorem n117_21 : gCode Try.prog call k (fAt Try.f117 [1,0,0,1,1,0,0,1,1,0,0,1,0]) a H K = onBool (asB (GA.eval a (.tmp 21))) (gCode Try.prog call k (fAt Try.f117 [1,0,0,1,1,0,0,1,1,0,0,1,0,0]) a H K) (gCode Try.prog call k (fAt Try.f117 [1,0,0,1,1,0,0,1,1,0,0,1,0,1]) a H K) := at_cond (by kernel_rfl)
theorem n117_22 : gCode Try.prog call k (fAt Try.f117 [1,0,0,1,1,0,0,1,1,0,0,1,0,0]) a H K = K .normal a H := at_skip (by kernel_rfl)
theorem n117_23 : gCode Try.prog call k (fAt Try.f117 [1,0,0,1,1,0,0,1,1,0,0,1,1]) a H K = gCode Try.prog call k (fAt Try.f117 [1,0,0,1,1,0,0,1,1,0,0,1,1,0]) a H (hSeq (gCode Try.prog call k (fAt Try.f117 [1,0,0,1,1,0,0,1,1,0,0,1,1,1])) K) := at_seq (by kernel_rfl)
theorem n117_24 : gCode Try.prog call k (fAt Try.f117 [1,0,0,1,1,0,0,1,1,0,0,1,1,0]) a H K = gCode Try.prog call k (fAt Try.f117 [1,0,0,1,1,0,0,1,1,0,0,1,1,0,0]) a H (hBlock 3 K) := at_block (by kernel_rfl)
theorem n117_25 : gCode Try.prog call k (fAt Try.f117 [1,0,0,1,1,0,0,1,1,0,0,1,1,0,0]) a H K = gCode Try.prog call k (fAt Try.f117 [1,0,0,1,1,0,0,1,1,0,0,1,1,0,0,0]) a H (hSeq (gCode Try.prog call k (fAt Try.f117 [1,0,0,1,1,0,0,1,1,0,0,1,1,0,0,1])) K) := at_seq (by kernel_rfl)
theorem n117_26 : gCode Try.prog call k (fAt Try.f117 [1,0,0,1,1,0,0,1,1,0,0,1,1,0,0,0]) a H K = gOps Try.prog 0 call (opsAt (fAt Try.f117 [1,0,0,1,1,0,0,1,1,0,0,1,1,0,0,0])) ((opsAt (fAt Try.f117 [1,0,0,1,1,0,0,1,1,0,0,1,1,0,0,0])).drop 0) a H (K .normal) := at_region (by kernel_rfl)
theorem n117_27 : gCode Try.prog call k (fAt Try.f117 [1,0,0,1,1,0,0,1,1,0,0,1,1,0,0,1]) a H K = gCode Try.prog call k (fAt Try.f117 [1,0,0,1,1,0,0,1,1,0,0,1,1,0,0,1,0]) a H (hSeq (gCode Try.prog call k (fAt Try.f117 [1,0,0,1,1,0,0,1,1,0,0,1,1,0,0,1,1])) K) := at_seq (by kernel_rfl)
theorem n117_28 : gCode Try.prog call k (fAt Try.f117 [1,0,0,1,1,0,0,1,1,0,0,1,0,1]) a H K = K (.exit 2) a H := at_exit (by kernel_rfl)
theorem n117_29 : gCode Try.prog call k (fAt Try.f117 [1,0,0,1,1,1]) a H K = gOps Try.prog 0 call (opsAt (fAt Try.f117 [1,0,0,1,1,1])) ((opsAt (fAt Try.f117 [1,0,0,1,1,1])).drop 0) a H (K .normal) := at_region (by kernel_rfl)
theorem n117_30 : gCode Try.prog call k (fAt Try.f117 [1,0,0,1,1,0,0,1,1,0,0,1,1,0,0,1,0]) a H K = gOps Try.prog 0 call (opsAt (fAt Try.f117 [1,0,0,1,1,0,0,1,1,0,0,1,1,0,0,1,0])) ((opsAt (fAt Try.f117 [1,0,0,1,1,0,0,1,1,0,0,1,1,0,0,1,0])).drop 0) a H (K .normal) := at_region (by kernel_rfl)
theorem n117_31 : gCode Try.prog call k (fAt Try.f117 [1,0,0,1,1,0,0,1,1,0,0,1,1,0,0,1,1]) a H K = onBool (asB (GA.eval a (.tmp 34))) (gCode Try.prog call k (fAt Try.f117 [1,0,0,1,1,0,0,1,1,0,0,1,1,0,0,1,1,0]) a H K) (gCode Try.prog call k (fAt Try.f117 [1,0,0,1,1,0,0,1,1,0,0,1,1,0,0,1,1,1]) a H K) := at_cond (by kernel_rfl)
theorem n117_32 : gCode Try.prog call k (fAt Try.f117 [1,0,0,1,1,0,0,1,1,0,0,1,1,0,0,1,1,0]) a H K = K .ret a H := at_ret (by kernel_rfl)
theorem n117_33 : gCode Try.prog call k (fAt Try.f117 [1,0,0,1,1,0,0,1,1,0,0,1,1,0,0,1,1,1]) a H K = K .normal a H := at_skip (by kernel_rfl)
theorem n117_34 : gCode Try.prog call k (fAt Try.f117 [1,0,0,1,1,0,0,1,1,0,0,1,1,1]) a H K = gOps Try.prog 0 call (opsAt (fAt Try.f117 [1,0,0,1,1,0,0,1,1,0,0,1,1,1])) ((opsAt (fAt Try.f117 [1,0,0,1,1,0,0,1,1,0,0,1,1,1])).drop 0) a H (K .normal) := at_region (by kernel_rfl)
theorem s117_0 : gOps Try.prog 0 call (opsAt (fAt Try.f117 [0])) ((opsAt (fAt Try.f117 [0])).drop 0) (p0::p1::undef::undef::undef::undef::undef::undef::undef::undef::undef::undef::undef::undef::undef::undef::undef::undef::undef::undef::undef::undef::undef::undef::undef::undef::undef::undef::undef::undef::undef::undef::undef::undef::undef::undef::undef::[]) H K' =
  onV (oFieldAddr Try.prog 24 p1 0) fun v1 =>
  onV (gLoad Try.prog 22 v1 H) fun v2 =>
  onV (oFieldAddr Try.prog 24 p1 1) fun v3 =>
  onV (gLoad Try.prog 22 v3 H) fun v4 =>
  onVH (gBuildSlice Try.prog 203 2 [(0, v2), (1, v4)] H) fun v5 H6 =>
  onV (oLen Try.prog 203 v5) fun v7 =>
  K' (p0::p1::undef::undef::undef::undef::v1::v2::v3::v4::v5::v7::(.int .i64 0)::undef::undef::undef::undef::undef::undef::undef::undef::undef::undef::undef::undef::undef::undef::undef::undef::undef::undef::undef::undef::undef::undef::undef::undef::[]) H6 := by kernel_rfl
theorem s117_1 : gOps Try.prog 0 call (opsAt (fAt Try.f117 [1,0,0,0])) ((opsAt (fAt Try.f117 [1,0,0,0])).drop 0) (x0::x1::x2::x3::x4::x5::x6::x7::x8::x9::x10::x11::x12::x13::x14::x15::x16::x17::x18::x19::x20::x21::x22::x23::x24::x25::x26::x27::x28::x29::x30::x31::x32::x33::x34::x35::x36::[]) H K' =
  onV ((oBin Try.prog .lss 3 x12 x11).filter closed) fun v1 =>
  K' (x0::x1::x2::x3::x4::x5::x6::x7::x8::x9::x10::x11::x12::v1::x14::x15::x16::x17::x18::x19::x20::x21::x22::x23::x24::x25::x26::x27::x28::x29::x30::x31::x32::x33::x34::x35::x36::[]) H := by kernel_rfl
theorem s117_2 : gOps Try.prog 0 call (opsAt (fAt Try.f117 [1,0,0,1,1,0,0,0])) ((opsAt (fAt Try.f117 [1,0,0,1,1,0,0,0])).drop 0) (x0::x1::x2::x3::x4::x5::x6::x7::x8::x9::x10::x11::x12::v1::x14::x15::x16::x17::x18::x19::x20::x21::x22::x23::x24::x25::x26::x27::x28::x29::x30::x31::x32::x33::x34::x35::x36::[]) H K' =
  onV (oIndexAddr Try.prog 203 x10 x12) fun v2 =>
  onV (gLoad Try.prog 22 v2 H) fun v3 =>
  K' (x0::x1::x2::x12::v3::x5::x6::x7::x8::x9::x10::x11::x12::v1::x12::v2::v3::x17::x18::x19::x20::x21::x22::x23::x24::x25::x26::x27::x28::x29::x30::x31::x32::x33::x34::x35::x36::[]) H := by kernel_rfl
theorem s117_3 : gOps Try.prog 0 call (opsAt (fAt Try.f117 [1,0,0,1,1,0,0,1,0])) ((opsAt (fAt Try.f117 [1,0,0,1,1,0,0,1,0])).drop 0) (x0::x1::x2::x12::v3::x5::x6::x7::x8::x9::x10::x11::x12::v1::x12::v2::v3::x17::x18::x19::x20::x21::x22::x23::x24::x25::x26::x27::x28::x29::x30::x31::x32::x33::x34::x35::x36::[]) H K' =
  onV (oLen Try.prog 22 v3) fun v4 =>
  onV ((oMinMax Try.prog false [v4, (.int .i64 40)]).filter closed) fun v5 =>
  K' (x0::x1::x2::x12::v3::x5::x6::x7::x8::x9::x10::x11::x12::v1::x12::v2::v3::v3::v4::v5::(.int .i64 0)::x21::x22::x23::x24::x25::x26::x27::x28::x29::x30::x31::x32::x33::x34::x35::x36::[]) H := by kernel_rfl
theorem s117_4 : gOps Try.prog 0 call (opsAt (fAt Try.f117 [1,0,0,1,1,0,0,1,1,0,0,0])) ((opsAt (fAt Try.f117 [1,0,0,1,1,0,0,1,1,0,0,0])).drop 0) (x0::x1::x2::x3::x4::x5::x6::x7::x8::x9::x10::x11::x12::x13::x14::x15::x16::x17::x18::x19::x20::x21::x22::x23::x24::x25::x26::x27::x28::x29::x30::x31::x32::x33::x34::x35::x36::[]) H K' =
  onV ((oBin Try.prog .lss 3 x20 x19).filter closed) fun v1 =>
  K' (x0::x1::x2::x3::x4::x5::x6::x7::x8::x9::x10::x11::x12::x13::x14::x15::x16::x17::x18::x19::x20::v1::x22::x23::x24::x25::x26::x27::x28::x29::x30::x31::x32::x33::x34::x35::x36::[]) H := by kernel_rfl
theorem s117_5 : gOps Try.prog 0 call (opsAt (fAt Try.f117 [1,0,0,1,1,0,0,1,1,0,0,1,1,0,0,0])) ((opsAt (fAt Try.f117 [1,0,0,1,1,0,0,1,1,0,0,1,1,0,0,0])).drop 0) (x0::x1::x2::x3::x4::x5::x6::x7::x8::x9::x10::x11::x12::x13::x14::x15::x16::x17::x18::x19::x20::v1::x22::x23::x24::x25::x26::x27::x28::x29::x30::x31::x32::x33::x34::x35::x36::[]) H K' =
  K' (x0::x1::x2::x3::x4::x20::x6::x7::x8::x9::x10::x11::x12::x13::x14::x15::x16::x17::x18::x19::x20::v1::x20::x23::x24::x25::x26::x27::x28::x29::x30::x31::x32::x33::x34::x35::x36::[]) H := by kernel_rfl
theorem s117_6 : gOps Try.prog 0 call (opsAt (fAt Try.f117 [1,0,0,1,1,1])) ((opsAt (fAt Try.f117 [1,0,0,1,1,1])).drop 0) (x0::x1::x2::x3::x4::x5::x6::x7::x8::x9::x10::x11::x12::x13::x14::x15::x16::x17::x18::x19::x20::v1::x22::x23::x24::x25::x26::x27::x28::x29::x30::x31::x32::x33::x34::x35::x36::[]) H K' =
  onV ((oBin Try.prog .add 3 x12 (.int .i64 1)).filter closed) fun v2 =>
  K' (x0::x1::x2::x3::x4::x5::x6::x7::x8::x9::x10::x11::v2::x13::x14::x15::x16::x17::x18::x19::x20::v1::x22::x23::x24::x25::x26::x27::x28::x29::x30::x31::x32::x33::x34::x35::v2::[]) H := by kernel_rfl
theorem s117_7 : gOps Try.prog 0 call (opsAt (fAt Try.f117 [1,0,0,1,1,0,0,1,1,0,0,1,1,0,0,1,0])) ((opsAt (fAt Try.f117 [1,0,0,1,1,0,0,1,1,0,0,1,1,0,0,1,0])).drop 0) (x0::x1::x2::x3::x4::x5::x6::x7::x8::x9::x10::x11::x12::x13::x14::x15::x16::x17::x18::x19::x20::x21::x22::x23::x24::x25::x26::x27::x28::x29::x30::x31::x32::x33::x34::x35::x36::[]) H K' =
  onV ((oConvert Try.prog 3 33 x3).filter closed) fun v1 =>
  onV ((oBin Try.prog .add 3 x5 (.int .i64 1)).filter closed) fun v2 =>
  onV (oBuild Try.prog 35 [(0, v1), (1, v2)]) fun v3 =>
  onV (oIndexAddr Try.prog 22 x4 x5) fun v4 =>
  onV (gLoad Try.prog 26 v4 H) fun v5 =>
  onCall 0 call x0 [v3, v5] H fun v6 H7 =>
  onV ((oUn Try.prog .not v6).filter closed) fun v8 =>
  K' (x0::x1::x2::x3::x4::x5::x6::x7::x8::x9::x10::x11::x12::x13::x14::x15::x16::x17::x18::x19::x20::x21::x22::x0::x3::v1::x5::v2::v3::x4::x5::v4::v5::v6::v8::x35::x36::[]) H7 := by kernel_rfl
theorem s117_8 : gOps Try.prog 0 call (opsAt (fAt Try.f117 [1,0,0,1,1,0,0,1,1,0,0,1,1,1])) ((opsAt (fAt Try.f117 [1,0,0,1,1,0,0,1,1,0,0,1,1,1])).drop 0) (x0::x1::x2::x3::x4::x5::x6::x7::x8::x9::x10::x11::x12::x13::x14::x15::x16::x17::x18::x19::x20::x21::x22::x0::x3::v1::x5::v2::v3::x4::x5::v4::v5::v6::v8::x35::x36::[]) H7 K' =
  onV ((oBin Try.prog .add 3 x20 (.int .i64 1)).filter closed) fun v9 =>
  K' (x0::x1::x2::x3::x4::x5::x6::x7::x8::x9::x10::x11::x12::x13::x14::x15::x16::x17::x18::x19::v9::x21::x22::x0::x3::v1::x5::v2::v3::x4::x5::v4::v5::v6::v8::v9::x36::[]) H7 := by kernel_rfl
def f117_l4_P (ag : GA → GH → M (Value × GH)) (sg : Value → Value → Value → Value → Value → Value → Value → Value → GH → M (Value × GH)) : Prop := ∀ (x0 x1 x2 x3 x4 x5 x6 x7 x8 x9 x10 x11 x12 x13 x14 x15 x16 x17 x18 x19 x20 x21 x22 x23 x24 x25 x26 x27 x28 x29 x30 x31 x32 x33 x34 x35 x36 : Value) (H : GH), ag (x0::x1::x2::x3::x4::x5::x6::x7::x8::x9::x10::x11::x12::x13::x14::x15::x16::x17::x18::x19::x20::x21::x22::x23::x24::x25::x26::x27::x28::x29::x30::x31::x32::x33::x34::x35::x36::[]) H = sg x0 x3 x4 x10 x11 x12 x19 x20 H
theorem f117_l4_at {ag : GA → GH → M (Value × GH)} {sg : Value → Value → Value → Value → Value → Value → Value → Value → GH → M (Value × GH)} (h : f117_l4_P ag sg) : ag (x0::x1::x2::x3::x4::x5::x6::x7::x8::x9::x10::x11::x12::x13::x14::x15::x16::x17::x18::x19::x20::x21::x22::x23::x24::x25::x26::x27::x28::x29::x30::x31::x32::x33::x34::x35::x36::[]) H = sg x0 x3 x4 x10 x11 x12 x19 x20 H := h x0 x1 x2 x3 x4 x5 x6 x7 x8 x9 x10 x11 x12 x13 x14 x15 x16 x17 x18 x19 x20 x21 x22 x23 x24 x25 x26 x27 x28 x29 x30 x31 x32 x33 x34 x35 x36 H
def f117_l1_P (ag : GA → GH → M (Value × GH)) (sg : Value → Value → Value → Value → GH → M (Value × GH)) : Prop := ∀ (x0 x1 x2 x3 x4 x5 x6 x7 x8 x9 x10 x11 x12 x13 x14 x15 x16 x17 x18 x19 x20 x21 x22 x23 x24 x25 x26 x27 x28 x29 x30 x31 x32 x33 x34 x35 x36 : Value) (H : GH), ag (x0::x1::x2::x3::x4::x5::x6::x7::x8::x9::x10::x11::x12::x13::x14::x15::x16::x17::x18::x19::x20::x21::x22::x23::x24::x25::x26::x27::x28::x29::x30::x31::x32::x33::x34::x35::x36::[]) H = sg x0 x10 x11 x12 H
theorem f117_l1_at {ag : GA → GH → M (Value × GH)} {sg : Value → Value → Value → Value → GH → M (Value × GH)} (h : f117_l1_P ag sg) : ag (x0::x1::x2::x3::x4::x5::x6::x7::x8::x9::x10::x11::x12::x13::x14::x15::x16::x17::x18::x19::x20::x21::x22::x23::x24::x25::x26::x27::x28::x29::x30::x31::x32::x33::x34::x35::x36::[]) H = sg x0 x10 x11 x12 H := h x0 x1 x2 x3 x4 x5 x6 x7 x8 x9 x10 x11 x12 x13 x14 x15 x16 x17 x18 x19 x20 x21 x22 x23 x24 x25 x26 x27 x28 x29 x30 x31 x32 x33 x34 x35 x36 H
noncomputable def f117_r6 (call : Handle) (k : Nat) (sg_l1 : Value → Value → Value → Value → GH → M (Value × GH)) (sg_l4 : Value → Value → Value → Value → Value → Value → Value → Value → GH → M (Value × GH)) (x0 x3 x4 x5 x10 x11 x12 x19 x20 : Value) (H : GH) : M (Value × GH) :=
  onV ((oConvert Try.prog 3 33 x3).filter closed) fun v1 =>
  onV ((oBin Try.prog .add 3 x5 (.int .i64 1)).filter closed) fun v2 =>
  onV (oBuild Try.prog 35 [(0, v1), (1, v2)]) fun v3 =>
  onV (oIndexAddr Try.prog 22 x4 x5) fun v4 =>
  onV (gLoad Try.prog 26 v4 H) fun v5 =>
  onCall 0 call x0 [v3, v5] H fun v6 H7 =>
  onV ((oUn Try.prog .not v6).filter closed) fun v8 =>
  onBool (asB v8)
  (some [((.tuple #[]), H7)])
  (onV ((oBin Try.prog .add 3 x20 (.int .i64 1)).filter closed) fun v9 =>
  (sg_l4 x0 x3 x4 x10 x11 x12 x19 v9 H7))
theorem f117_r6_eq (call : Handle) (k : Nat) (ag_l1 : GA → GH → M (Value × GH)) (sg_l1 : Value → Value → Value → Value → GH → M (Value × GH)) (h_l1 : f117_l1_P ag_l1 sg_l1) (ag_l4 : GA → GH → M (Value × GH)) (sg_l4 : Value → Value → Value → Value → Value → Value → Value → Value → GH → M (Value × GH)) (h_l4 : f117_l4_P ag_l4 sg_l4) : gCode Try.prog call k (fAt Try.f117 [1,0,0,1,1,0,0,1,1,0,0,1,1,0,0,1,0]) (x0::x1::x2::x3::x4::x5::x6::x7::x8::x9::x10::x11::x12::x13::x14::x15::x16::x17::x18::x19::x20::x21::x22::x23::x24::x25::x26::x27::x28::x29::x30::x31::x32::x33::x34::x35::x36::[]) H (hSeq (gCode Try.prog call k (fAt Try.f117 [1,0,0,1,1,0,0,1,1,0,0,1,1,0,0,1,1])) (hBlock 3 (hSeq (gCode Try.prog call k (fAt Try.f117 [1,0,0,1,1,0,0,1,1,0,0,1,1,1])) (hLoop ag_l4 (hBlock 2 (hBlock 1 (hSeq (gCode Try.prog call k (fAt Try.f117 [1,0,0,1,1,1])) (hLoop ag_l1 (hBlock 0 (hFin Try.prog Try.f117)))))))))) = f117_r6 call k sg_l1 sg_l4 x0 x3 x4 x5 x10 x11 x12 x19 x20 H := by
  unfold f117_r6
  rw [n117_30]
  rw [s117_7]
  refine onV_c fun v1 => ?_
  refine onV_c fun v2 => ?_
  refine onV_c fun v3 => ?_
  refine onV_c fun v4 => ?_
  refine onV_c fun v5 => ?_
  refine onCall_c fun v6 H7 => ?_
  refine onV_c fun v8 => ?_
  rw [hSeq_n]
  rw [n117_31]
  refine onBool_cc rfl ?_ ?_
  · rw [n117_32]
    rw [hBlock_r, hSeq_r, hLoop_r, hBlock_r, hBlock_r, hSeq_r, hLoop_r, hBlock_r]
    exact fin117_ret
  · rw [n117_33]
    rw [hBlock_n]
    rw [hSeq_n]
    rw [n117_34]
    rw [s117_8]
    refine onV_c fun v9 => ?_
    rw [hLoop_n]
    exact f117_l4_at h_l4
noncomputable def f117_l4b (call : Handle) (k : Nat) (sg_l1 : Value → Value → Value → Value → GH → M (Value × GH)) (sg_l4 : Value → Value → Value → Value → Value → Value → Value → Value → GH → M (Value × GH)) (x0 x3 x4 x10 x11 x12 x19 x20 : Value) (H : GH) : M (Value × GH) :=
  onV ((oBin Try.prog .lss 3 x20 x19).filter closed) fun v1 =>
  onBool (asB v1)
  ((f117_r6 call k (sg_l1) (sg_l4) x0 x3 x4 x20 x10 x11 x12 x19 x20 H))
  (onV ((oBin Try.prog .add 3 x12 (.int .i64 1)).filter closed) fun v2 =>
  (sg_l1 x0 x10 x11 v2 H))
theorem f117_l4b_eq (call : Handle) (k : Nat) (ag_l1 : GA → GH → M (Value × GH)) (sg_l1 : Value → Value → Value → Value → GH → M (Value × GH)) (h_l1 : f117_l1_P ag_l1 sg_l1) (ag_l4 : GA → GH → M (Value × GH)) (sg_l4 : Value → Value → Value → Value → Value → Value → Value → Value → GH → M (Value × GH)) (h_l4 : f117_l4_P ag_l4 sg_l4) : gCode Try.prog call k (fAt Try.f117 [1,0,0,1,1,0,0,1,1,0,0]) (x0::x1::x2::x3::x4::x5::x6::x7::x8::x9::x10::x11::x12::x13::x14::x15::x16::x17::x18::x19::x20::x21::x22::x23::x24::x25::x26::x27::x28::x29::x30::x31::x32::x33::x34::x35::x36::[]) H (hLoop ag_l4 (hBlock 2 (hBlock 1 (hSeq (gCode Try.prog call k (fAt Try.f117 [1,0,0,1,1,1])) (hLoop ag_l1 (hBlock 0 (hFin Try.prog Try.f117))))))) = f117_l4b call k sg_l1 sg_l4 x0 x3 x4 x10 x11 x12 x19 x20 H := by
  unfold f117_l4b
  rw [n117_18]
  rw [n117_19]
  rw [s117_4]
  refine onV_c fun v1 => ?_
  rw [hSeq_n]
  rw [n117_20]
  rw [n117_21]
  refine onBool_cc rfl ?_ ?_
  · rw [n117_22]
    rw [hSeq_n]
    rw [n117_23]
    rw [n117_24]
    rw [n117_25]
    rw [n117_26]
    rw [s117_5]
    rw [hSeq_n]
    rw [n117_27]
    exact f117_r6_eq call k ag_l1 sg_l1 h_l1 ag_l4 sg_l4 h_l4
  · rw [n117_28]
    rw [hSeq_e, hLoop_e, hBlock_hit]
    rw [hBlock_n]
    rw [hSeq_n]
    rw [n117_29]
    rw [s117_6]
    refine onV_c fun v2 => ?_
    rw [hLoop_n]
    exact f117_l1_at h_l1
noncomputable def f117_l4 (call : Handle) (k : Nat) (sg_l1 : Value → Value → Value → Value → GH → M (Value × GH)) : Nat → Value → Value → Value → Value → Value → Value → Value → Value → GH → M (Value × GH)
  | 0, _, _, _, _, _, _, _, _, _ => none
  | r + 1, x0, x3, x4, x10, x11, x12, x19, x20, H => f117_l4b call k sg_l1 (f117_l4 call k sg_l1 r) x0 x3 x4 x10 x11 x12 x19 x20 H
theorem f117_l4_eq (call : Handle) (k : Nat) (ag_l1 : GA → GH → M (Value × GH)) (sg_l1 : Value → Value → Value → Value → GH → M (Value × GH)) (h_l1 : f117_l1_P ag_l1 sg_l1) : ∀ (r : Nat), f117_l4_P (gLoop (gCode Try.prog call k (fAt Try.f117 [1,0,0,1,1,0,0,1,1,0,0])) (hBlock 2 (hBlock 1 (hSeq (gCode Try.prog call k (fAt Try.f117 [1,0,0,1,1,1])) (hLoop ag_l1 (hBlock 0 (hFin Try.prog Try.f117)))))) r) (f117_l4 call k sg_l1 r) := by
  intro r
  induction r with
  | zero => unfold f117_l4_P; intros; rfl
  | succ r ih => unfold f117_l4_P; intros; exact f117_l4b_eq call k ag_l1 sg_l1 h_l1 _ _ ih
noncomputable def f117_l1b (call : Handle) (k : Nat) (sg_l1 : Value → Value → Value → Value → GH → M (Value × GH)) (x0 x10 x11 x12 : Value) (H : GH) : M (Value × GH) :=
  onV ((oBin Try.prog .lss 3 x12 x11).filter closed) fun v1 =>
  onBool (asB v1)
  (onV (oIndexAddr Try.prog 203 x10 x12) fun v2 =>
  onV (gLoad Try.prog 22 v2 H) fun v3 =>
  onV (oLen Try.prog 22 v3) fun v4 =>
  onV ((oMinMax Try.prog false [v4, (.int .i64 40)]).filter closed) fun v5 =>
  (f117_l4 call k (sg_l1) k x0 x12 v3 x10 x11 x12 v5 (.int .i64 0) H))
  (some [((.tuple #[]), H)])
theorem f117_l1b_eq (call : Handle) (k : Nat) (ag_l1 : GA → GH → M (Value × GH)) (sg_l1 : Value → Value → Value → Value → GH → M (Value × GH)) (h_l1 : f117_l1_P ag_l1 sg_l1) : gCode Try.prog call k (fAt Try.f117 [1,0,0]) (x0::x1::x2::x3::x4::x5::x6::x7::x8::x9::x10::x11::x12::x13::x14::x15::x16::x17::x18::x19::x20::x21::x22::x23::x24::x25::x26::x27::x28::x29::x30::x31::x32::x33::x34::x35::x36::[]) H (hLoop ag_l1 (hBlock 0 (hFin Try.prog Try.f117))) = f117_l1b call k sg_l1 x0 x10 x11 x12 H := by
  unfold f117_l1b
  rw [n117_4]
  rw [n117_5]
  rw [s117_1]
  refine onV_c fun v1 => ?_
  rw [hSeq_n]
  rw [n117_6]
  rw [n117_7]
  refine onBool_cc rfl ?_ ?_
  · rw [n117_8]
    rw [hSeq_n]
    rw [n117_9]
    rw [n117_10]
    rw [n117_11]
    rw [n117_12]
    rw [s117_2]
    refine onV_c fun v2 => ?_
    refine onV_c fun v3 => ?_
    rw [hSeq_n]
    rw [n117_13]
    rw [n117_14]
    rw [s117_3]
    refine onV_c fun v4 => ?_
    refine onV_c fun v5 => ?_
    rw [hSeq_n]
    rw [n117_15]
    rw [n117_16]
    exact f117_l4_at (f117_l4_eq call k ag_l1 sg_l1 h_l1 k)
  · rw [n117_17]
    rw [hSeq_e, hLoop_e, hBlock_hit]
    exact fin117_normal
noncomputable def f117_l1 (call : Handle) (k : Nat) : Nat → Value → Value → Value → Value → GH → M (Value × GH)
  | 0, _, _, _, _, _ => none
  | r + 1, x0, x10, x11, x12, H => f117_l1b call k (f117_l1 call k r) x0 x10 x11 x12 H
theorem f117_l1_eq (call : Handle) (k : Nat) : ∀ (r : Nat), f117_l1_P (gLoop (gCode Try.prog call k (fAt Try.f117 [1,0,0])) (hBlock 0 (hFin Try.prog Try.f117)) r) (f117_l1 call k r) := by
  intro r
  induction r with
  | zero => unfold f117_l1_P; intros; rfl
  | succ r ih => unfold f117_l1_P; intros; exact f117_l1b_eq call k _ _ ih
noncomputable def f117_sh (call : Handle) (k : Nat) (p0 p1 : Value) (H : GH) : M (Value × GH) :=
  onV (oFieldAddr Try.prog 24 p1 0) fun v1 =>
  onV (gLoad Try.prog 22 v1 H) fun v2 =>
  onV (oFieldAddr Try.prog 24 p1 1) fun v3 =>
  onV (gLoad Try.prog 22 v3 H) fun v4 =>
  onVH (gBuildSlice Try.prog 203 2 [(0, v2), (1, v4)] H) fun v5 H6 =>
  onV (oLen Try.prog 203 v5) fun v7 =>
  (f117_l1 call k k p0 v5 v7 (.int .i64 0) H6)
theorem f117_run (call : Handle) (k : Nat) (p0 p1 : Value) (H : GH) : gCode Try.prog call k (fAt Try.f117 []) (p0::p1::undef::undef::undef::undef::undef::undef::undef::undef::undef::undef::undef::undef::undef::undef::undef::undef::undef::undef::undef::undef::undef::undef::undef::undef::undef::undef::undef::undef::undef::undef::undef::undef::undef::undef::undef::[]) H (hFin Try.prog Try.f117) = f117_sh call k p0 p1 H := by
  unfold f117_sh
  rw [n117_0]
  rw [n117_1]
  rw [s117_0]
  refine onV_c fun v1 => ?_
  refine onV_c fun v2 => ?_
  refine onV_c fun v3 => ?_
  refine onV_c fun v4 => ?_
  refine onVH_c fun v5 H6 => ?_
  refine onV_c fun v7 => ?_
  rw [hSeq_n]
  rw [n117_2]
  rw [n117_3]
  exact f117_l1_at (f117_l1_eq call k k)
theorem f117_eq (call : Handle) (k : Nat) (p0 p1 : Value) (H : GH) : gFunc Try.prog call k Try.f117 [p0, p1] H = f117_sh call k p0 p1 H :=
  Eq.trans (by kernel_rfl) (f117_run call k p0 p1 H)
end
section
variable {β : Type} {call : Handle} {k : Nat} {a : GA} {K : Kont β} {K' : GA → GH → M β}
variable {x0 x1 x2 x3 x4 x5 x6 x7 x8 x9 x10 x11 x12 x13 : Value}
variable {p0 : Value}
variable {v1 v2 : Value}
variable {H H1 H4 : GH}
theorem fin45_normal : hFin Try.prog Try.f45 .normal [x0, x1, x2, x3, x4, x5, x6, x7, x8, x9, x10, x11, x12, x13] H =
  some [(x2, H)] := by kernel_rfl
theorem fin45_ret : hFin Try.prog Try.f45 .ret [x0, x1, x2, x3, x4, x5, x6, x7, x8, x9, x10, x11, x12, x13] H =
  some [(x2, H)] := by kernel_rfl
theorem n45_0 : gCode Try.prog call k (fAt Try.f45 []) a H K = gCode Try.prog call k (fAt Try.f45 [0]) a H (hSeq (gCode Try.prog call k (fAt Try.f45 [1])) K) := at_seq (by kernel_rfl)
theorem n45_1 : gCode Try.prog call k (fAt Try.f45 [0]) a H K = gOps Try.prog 0 call (opsAt (fAt Try.f45 [0])) ((opsAt (fAt Try.f45 [0])).drop 0) a H (K .normal) := at_region (by kernel_rfl)
theorem n45_2 : gCode Try.prog call k (fAt Try.f45 [1]) a H K = gCode Try.prog call k (fAt Try.f45 [1,0]) a H (hSeq (gCode Try.prog call k (fAt Try.f45 [1,1])) K) := at_seq (by kernel_rfl)
theorem n45_3 : gCode Try.prog call k (fAt Try.f45 [1,0]) a H K = gOps Try.prog 0 call (opsAt (fAt Try.f45 [1,0])) ((opsAt (fAt Try.f45 [1,0])).drop 0) a H (K .normal) := at_region (by kernel_rfl)
theorem n45_4 : gCode Try.prog call k (fAt Try.f45 [1,1]) a H K = gCode Try.prog call k (fAt Try.f45 [1,1,0]) a H (hSeq (gCode Try.prog call k (fAt Try.f45 [1,1,1])) K) := at_seq (by kernel_rfl)
theorem n45_5 : gCode Try.prog call k (fAt Try.f45 [1,1,0]) a H K = gCode Try.prog call k (fAt Try.f45 [1,1,0,0]) a H (hSeq (gCode Try.prog call k (fAt Try.f45 [1,1,0,1])) K) := at_seq (by kernel_rfl)
theorem n45_6 : gCode Try.prog call k (fAt Try.f45 [1,1,0,0]) a H K = gOps Try.prog 0 call (opsAt (fAt Try.f45 [1,1,0,0])) ((opsAt (fAt Try.f45 [1,1,0,0])).drop 0) a H (K .normal) := at_region (by kernel_rfl)
theorem n45_7 : gCode Try.prog call k (fAt Try.f45 [1,1,0,1]) a H K = gCode Try.prog call k (fAt Try.f45 [1,1,0,1,0]) a H (hBlock 0 K) := at_block (by kernel_rfl)
theorem n45_8 : gCode Try.prog call k (fAt Try.f45 [1,1,0,1,0]) a H K = onFunc (GA.eval a (.tmp 7)) fun g => bindM (call g [.func (.yield H.n) #[] #[]] (GH.push H (.loop .ready none a [8, 9] (fAt Try.f45 [1,1,0,1,0,0]) (fAt Try.f45 [1,1,0,1,0,1])))) fun z => onEnd H.n z.2 (fun H => K .normal a H) (fun H => K .ret a H) (fun id H => K (.exit id) a H) := at_rangeFunc (ps := #[8, 9]) (by kernel_rfl)
theorem n45_9 : gCode Try.prog call k (fAt Try.f45 [1,1,1]) a H K = gCode Try.prog call k (fAt Try.f45 [1,1,1,0]) a H (hSeq (gCode Try.prog call k (fAt Try.f45 [1,1,1,1])) K) := at_seq (by kernel_rfl)
theorem n45_10 : gCode Try.prog call k (fAt Try.f45 [1,1,1,0]) a H K = gOps Try.prog 0 call (opsAt (fAt Try.f45 [1,1,1,0])) ((opsAt (fAt Try.f45 [1,1,1,0])).drop 0) a H (K .normal) := at_region (by kernel_rfl)
theorem n45_11 : gCode Try.prog call k (fAt Try.f45 [1,1,1,1]) a H K = K .ret a H := at_ret (by kernel_rfl)
theorem n45_12 : gCode Try.prog call k (fAt Try.f45 [1,1,0,1,0,0]) a H K = gOps Try.prog 0 call (opsAt (fAt Try.f45 [1,1,0,1,0,0])) ((opsAt (fAt Try.f45 [1,1,0,1,0,0])).drop 0) a H (K .normal) := at_region (by kernel_rfl)
theorem n45_13 : gCode Try.prog call k (fAt Try.f45 [1,1,0,1,0,1]) a H K = gCode Try.prog call k (fAt Try.f45 [1,1,0,1,0,1,0]) a H (hBlock 1 K) := at_block (by kernel_rfl)
theorem n45_14 : gCode Try.prog call k (fAt Try.f45 [1,1,0,1,0,1,0]) a H K = gOps Try.prog 0 call (opsAt (fAt Try.f45 [1,1,0,1,0,1,0])) ((opsAt (fAt Try.f45 [1,1,0,1,0,1,0])).drop 0) a H (K .normal) := at_region (by kernel_rfl)
theorem s45_0 : gOps Try.prog 0 call (opsAt (fAt Try.f45 [0])) ((opsAt (fAt Try.f45 [0])).drop 0) [p0, undef, undef, undef, undef, undef, undef, undef, undef, undef, undef, undef, undef, undef] H K' =
  K' [p0, (.pointer (some ⟨H.n, 0, none⟩)), (.slice none 0 0), undef, undef, undef, undef, undef, undef, undef, undef, undef, undef, undef] (GH.push H (.row (Value.cells p0).toList 24 false)) := by kernel_rfl
theorem s45_1 : gOps Try.prog 0 call (opsAt (fAt Try.f45 [1,0])) ((opsAt (fAt Try.f45 [1,0])).drop 0) [p0, (.pointer (some ⟨H.n, 0, none⟩)), (.slice none 0 0), undef, undef, undef, undef, undef, undef, undef, undef, undef, undef, undef] (GH.push H (.row (Value.cells p0).toList 24 false)) K' =
  K' [p0, (.pointer (some ⟨H.n, 0, none⟩)), (.slice none 0 0), (.pointer (some ⟨(GH.push H (.row (Value.cells p0).toList 24 false)).n, 0, none⟩)), undef, undef, undef, undef, undef, undef, undef, undef, undef, undef] (GH.push (GH.push H (.row (Value.cells p0).toList 24 false)) (.row [(.slice none 0 0)] 26 false)) := by kernel_rfl
theorem s45_2 : gOps Try.prog 0 call (opsAt (fAt Try.f45 [1,1,0,0])) ((opsAt (fAt Try.f45 [1,1,0,0])).drop 0) [p0, (.pointer (some ⟨H.n, 0, none⟩)), (.slice none 0 0), (.pointer (some ⟨(GH.push H (.row (Value.cells p0).toList 24 false)).n, 0, none⟩)), undef, undef, undef, undef, undef, undef, undef, undef, undef, undef] (GH.push (GH.push H (.row (Value.cells p0).toList 24 false)) (.row [(.slice none 0 0)] 26 false)) K' =
  onV (gLoad Try.prog 24 (.pointer (some ⟨H.n, 0, none⟩)) (GH.push (GH.push H (.row (Value.cells p0).toList 24 false)) (.row [(.slice none 0 0)] 26 false))) fun v1 =>
  onCall 0 call (.func (.func 44) #[] #[]) [v1] (GH.push (GH.push H (.row (Value.cells p0).toList 24 false)) (.row [(.slice none 0 0)] 26 false)) fun v2 H3 =>
  K' [p0, (.pointer (some ⟨H.n, 0, none⟩)), (.slice none 0 0), (.pointer (some ⟨(GH.push H (.row (Value.cells p0).toList 24 false)).n, 0, none⟩)), undef, undef, v1, v2, undef, undef, undef, undef, undef, undef] H3 := by kernel_rfl
theorem s45_3 : gOps Try.prog 0 call (opsAt (fAt Try.f45 [1,1,1,0])) ((opsAt (fAt Try.f45 [1,1,1,0])).drop 0) [p0, (.pointer (some ⟨H.n, 0, none⟩)), (.slice none 0 0), (.pointer (some ⟨(GH.push H (.row (Value.cells p0).toList 24 false)).n, 0, none⟩)), undef, undef, v1, v2, undef, undef, undef, undef, undef, undef] H4 K' =
  onV (gLoad Try.prog 26 (.pointer (some ⟨(GH.push H (.row (Value.cells p0).toList 24 false)).n, 0, none⟩)) H4) fun v6 =>
  K' [p0, (.pointer (some ⟨H.n, 0, none⟩)), v6, (.pointer (some ⟨(GH.push H (.row (Value.cells p0).toList 24 false)).n, 0, none⟩)), undef, undef, v1, v2, undef, undef, undef, undef, undef, v6] H4 := by kernel_rfl
theorem s45_4 : gOps Try.prog 0 call (opsAt (fAt Try.f45 [1,1,1,0])) ((opsAt (fAt Try.f45 [1,1,1,0])).drop 0) [p0, (.pointer (some ⟨H.n, 0, none⟩)), (.slice none 0 0), (.pointer (some ⟨(GH.push H (.row (Value.cells p0).toList 24 false)).n, 0, none⟩)), undef, undef, v1, v2, undef, undef, undef, undef, undef, undef] H4 K' =
  onV (gLoad Try.prog 26 (.pointer (some ⟨(GH.push H (.row (Value.cells p0).toList 24 false)).n, 0, none⟩)) H4) fun v7 =>
  K' [p0, (.pointer (some ⟨H.n, 0, none⟩)), v7, (.pointer (some ⟨(GH.push H (.row (Value.cells p0).toList 24 false)).n, 0, none⟩)), undef, undef, v1, v2, undef, undef, undef, undef, undef, v7] H4 := by kernel_rfl
theorem s45_5 : gOps Try.prog 0 call (opsAt (fAt Try.f45 [1,1,0,1,0,0])) ((opsAt (fAt Try.f45 [1,1,0,1,0,0])).drop 0) [x0, x1, x2, x3, x4, x5, x6, x7, x8, x9, x10, x11, x12, x13] H K' =
  K' [x0, x1, x2, x3, x4, x9, x6, x7, x8, x9, x10, x11, x12, x13] H := by kernel_rfl
theorem s45_6 : gOps Try.prog 0 call (opsAt (fAt Try.f45 [1,1,0,1,0,1,0])) ((opsAt (fAt Try.f45 [1,1,0,1,0,1,0])).drop 0) [x0, x1, x2, x3, x4, x9, x6, x7, x8, x9, x10, x11, x12, x13] H1 K' =
  onV (gLoad Try.prog 26 x3 H1) fun v2 =>
  onVH (gAppend Try.prog 26 26 v2 x9 H1) fun v3 H4 =>
  onH (gStore Try.prog 26 x3 v3 H4) fun H5 =>
  K' [x0, x1, x2, x3, x4, x9, x6, x7, x8, x9, v2, x9, v3, x13] H5 := by kernel_rfl
noncomputable def f45_R3 (call : Handle) (k : Nat) (L : Nat) (x3 x9 : Value) (H : GH) : M (Value × GH) :=
  onReady L H fun H1 =>
  onV (gLoad Try.prog 26 x3 H1) fun v2 =>
  onVH (gAppend Try.prog 26 26 v2 x9 H1) fun v3 H4 =>
  onH (gStore Try.prog 26 x3 v3 H4) fun H5 =>
  hRound L .normal [] H5
theorem f45_R3_eq (call : Handle) (k : Nat) (L : Nat) : gCode Try.prog call k (fAt Try.f45 [1,1,0,1,0,0]) [x0, x1, x2, x3, x4, x5, x6, x7, x8, x9, x10, x11, x12, x13] H (hBegin Try.prog call k L (fAt Try.f45 [1,1,0,1,0,1])) = f45_R3 call k L x3 x9 H := by
  unfold f45_R3
  rw [n45_12]
  rw [s45_5]
  rw [hBegin_n]
  refine onReady_c fun H1 => ?_
  rw [n45_13]
  rw [n45_14]
  rw [s45_6]
  refine onV_c fun v2 => ?_
  refine onVH_c fun v3 H4 => ?_
  refine onH_c fun H5 => ?_
  rw [hBlock_n]
  exact hRound_a
noncomputable def f45_sh (call : Handle) (k : Nat) (p0 : Value) (H : GH) : M (Value × GH) :=
  onV (gLoad Try.prog 24 (.pointer (some ⟨H.n, 0, none⟩)) (GH.push (GH.push H (.row (Value.cells p0).toList 24 false)) (.row [(.slice none 0 0)] 26 false))) fun v1 =>
  onCall 0 call (.func (.func 44) #[] #[]) [v1] (GH.push (GH.push H (.row (Value.cells p0).toList 24 false)) (.row [(.slice none 0 0)] 26 false)) fun v2 H3 =>
  onFunc v2 fun g => bindM (call g [.func (.yield H3.n) #[] #[]] (GH.push H3 (.loop .ready none [p0, (.pointer (some ⟨H.n, 0, none⟩)), (.slice none 0 0), (.pointer (some ⟨(GH.push H (.row (Value.cells p0).toList 24 false)).n, 0, none⟩)), undef, undef, v1, v2, undef, undef, undef, undef, undef, undef] [8, 9] (fAt Try.f45 [1,1,0,1,0,0]) (fAt Try.f45 [1,1,0,1,0,1])))) fun x =>
 onEnd H3.n x.2
  (fun H4 => onV (gLoad Try.prog 26 (.pointer (some ⟨(GH.push H (.row (Value.cells p0).toList 24 false)).n, 0, none⟩)) H4) fun v6 =>
  some [(v6, H4)])
  (fun H4 => some [((.slice none 0 0), H4)])
  (fun i5 H4 => if i5 = 0 then (onV (gLoad Try.prog 26 (.pointer (some ⟨(GH.push H (.row (Value.cells p0).toList 24 false)).n, 0, none⟩)) H4) fun v7 =>
  some [(v7, H4)]) else (none))
theorem f45_run (call : Handle) (k : Nat) (p0 : Value) (H : GH) : gCode Try.prog call k (fAt Try.f45 []) [p0, undef, undef, undef, undef, undef, undef, undef, undef, undef, undef, undef, undef, undef] H (hFin Try.prog Try.f45) = f45_sh call k p0 H := by
  unfold f45_sh
  rw [n45_0]
  rw [n45_1]
  rw [s45_0]
  rw [hSeq_n]
  rw [n45_2]
  rw [n45_3]
  rw [s45_1]
  rw [hSeq_n]
  rw [n45_4]
  rw [n45_5]
  rw [n45_6]
  rw [s45_2]
  refine onV_c fun v1 => ?_
  refine onCall_c fun v2 H3 => ?_
  rw [hSeq_n]
  rw [n45_7]
  rw [n45_8]
  refine onRange_cc rfl fun z => ?_
  refine onEnd_c (fun H4 => ?_) (fun H4 => ?_) (fun i5 H4 => ?_)
  · rw [hBlock_n]
    rw [hSeq_n]
    rw [n45_9]
    rw [n45_10]
    rw [s45_3]
    refine onV_c fun v6 => ?_
    rw [hSeq_n]
    rw [n45_11]
    exact fin45_ret
  · rw [hBlock_r, hSeq_r]
    exact fin45_ret
  · rw [hBlock_e]
    refine ite_c ?_ ?_
    · rw [hSeq_n]
      rw [n45_9]
      rw [n45_10]
      rw [s45_4]
      refine onV_c fun v7 => ?_
      rw [hSeq_n]
      rw [n45_11]
      exact fin45_ret
    · rw [hSeq_e]
      exact hFin_e
theorem f45_eq (call : Handle) (k : Nat) (p0 : Value) (H : GH) : gFunc Try.prog call k Try.f45 [p0] H = f45_sh call k p0 H :=
  Eq.trans (by kernel_rfl) (f45_run call k p0 H)
end
section
variable {β : Type} {call : Handle} {k : Nat} {a : GA} {K : Kont β} {K' : GA → GH → M β}
variable {x0 x1 x2 x3 x4 x5 x6 x7 x8 x9 x10 x11 x12 x13 x14 x15 x16 x17 x18 : Value}
variable {p0 : Value}
variable {v1 v2 v3 v5 v6 v7 : Value}
variable {H H4 H8 : GH}
theorem fin49_normal : hFin Try.prog Try.f49 .normal (x0::x1::x2::x3::x4::x5::x6::x7::x8::x9::x10::x11::x12::x13::x14::x15::x16::x17::x18::[]) H =
  some [(x2, H)] := by kernel_rfl
theorem fin49_ret : hFin Try.prog Try.f49 .ret (x0::x1::x2::x3::x4::x5::x6::x7::x8::x9::x10::x11::x12::x13::x14::x15::x16::x17::x18::[]) H =
  some [(x2, H)] := by kernel_rfl
theorem n49_0 : gCode Try.prog call k (fAt Try.f49 []) a H K = gCode Try.prog call k (fAt Try.f49 [0]) a H (hSeq (gCode Try.prog call k (fAt Try.f49 [1])) K) := at_seq (by kernel_rfl)
theorem n49_1 : gCode Try.prog call k (fAt Try.f49 [0]) a H K = gOps Try.prog 0 call (opsAt (fAt Try.f49 [0])) ((opsAt (fAt Try.f49 [0])).drop 0) a H (K .normal) := at_region (by kernel_rfl)
theorem n49_2 : gCode Try.prog call k (fAt Try.f49 [1]) a H K = gCode Try.prog call k (fAt Try.f49 [1,0]) a H (hSeq (gCode Try.prog call k (fAt Try.f49 [1,1])) K) := at_seq (by kernel_rfl)
theorem n49_3 : gCode Try.prog call k (fAt Try.f49 [1,0]) a H K = gOps Try.prog 0 call (opsAt (fAt Try.f49 [1,0])) ((opsAt (fAt Try.f49 [1,0])).drop 0) a H (K .normal) := at_region (by kernel_rfl)
theorem n49_4 : gCode Try.prog call k (fAt Try.f49 [1,1]) a H K = gCode Try.prog call k (fAt Try.f49 [1,1,0]) a H (hSeq (gCode Try.prog call k (fAt Try.f49 [1,1,1])) K) := at_seq (by kernel_rfl)
theorem n49_5 : gCode Try.prog call k (fAt Try.f49 [1,1,0]) a H K = gCode Try.prog call k (fAt Try.f49 [1,1,0,0]) a H (hSeq (gCode Try.prog call k (fAt Try.f49 [1,1,0,1])) K) := at_seq (by kernel_rfl)
theorem n49_6 : gCode Try.prog call k (fAt Try.f49 [1,1,0,0]) a H K = gOps Try.prog 0 call (opsAt (fAt Try.f49 [1,1,0,0])) ((opsAt (fAt Try.f49 [1,1,0,0])).drop 0) a H (K .normal) := at_region (by kernel_rfl)
theorem n49_7 : gCode Try.prog call k (fAt Try.f49 [1,1,0,1]) a H K = gCode Try.prog call k (fAt Try.f49 [1,1,0,1,0]) a H (hBlock 0 K) := at_block (by kernel_rfl)
theorem n49_8 : gCode Try.prog call k (fAt Try.f49 [1,1,0,1,0]) a H K = gLoop (gCode Try.prog call k (fAt Try.f49 [1,1,0,1,0,0])) K k a H := at_loop (by kernel_rfl)
theorem n49_9 : gCode Try.prog call k (fAt Try.f49 [1,1,0,1,0,0]) a H K = gCode Try.prog call k (fAt Try.f49 [1,1,0,1,0,0,0]) a H (hSeq (gCode Try.prog call k (fAt Try.f49 [1,1,0,1,0,0,1])) K) := at_seq (by kernel_rfl)
theorem n49_10 : gCode Try.prog call k (fAt Try.f49 [1,1,0,1,0,0,0]) a H K = gOps Try.prog 0 call (opsAt (fAt Try.f49 [1,1,0,1,0,0,0])) ((opsAt (fAt Try.f49 [1,1,0,1,0,0,0])).drop 0) a H (K .normal) := at_region (by kernel_rfl)
theorem n49_11 : gCode Try.prog call k (fAt Try.f49 [1,1,0,1,0,0,1]) a H K = gCode Try.prog call k (fAt Try.f49 [1,1,0,1,0,0,1,0]) a H (hSeq (gCode Try.prog call k (fAt Try.f49 [1,1,0,1,0,0,1,1])) K) := at_seq (by kernel_rfl)
theorem n49_12 : gCode Try.prog call k (fAt Try.f49 [1,1,0,1,0,0,1,0]) a H K = onBool (asB (GA.eval a (.tmp 10))) (gCode Try.prog call k (fAt Try.f49 [1,1,0,1,0,0,1,0,0]) a H K) (gCode Try.prog call k (fAt Try.f49 [1,1,0,1,0,0,1,0,1]) a H K) := at_cond (by kernel_rfl)
theorem n49_13 : gCode Try.prog call k (fAt Try.f49 [1,1,0,1,0,0,1,0,0]) a H K = K .normal a H := at_skip (by kernel_rfl)
theorem n49_14 : gCode Try.prog call k (fAt Try.f49 [1,1,0,1,0,0,1,1]) a H K = gCode Try.prog call k (fAt Try.f49 [1,1,0,1,0,0,1,1,0]) a H (hSeq (gCode Try.prog call k (fAt Try.f49 [1,1,0,1,0,0,1,1,1])) K) := at_seq (by kernel_rfl)
theorem n49_15 : gCode Try.prog call k (fAt Try.f49 [1,1,0,1,0,0,1,1,0]) a H K = gCode Try.prog call k (fAt Try.f49 [1,1,0,1,0,0,1,1,0,0]) a H (hBlock 1 K) := at_block (by kernel_rfl)
theorem n49_16 : gCode Try.prog call k (fAt Try.f49 [1,1,0,1,0,0,1,1,0,0]) a H K = gCode Try.prog call k (fAt Try.f49 [1,1,0,1,0,0,1,1,0,0,0]) a H (hSeq (gCode Try.prog call k (fAt Try.f49 [1,1,0,1,0,0,1,1,0,0,1])) K) := at_seq (by kernel_rfl)
theorem n49_17 : gCode Try.prog call k (fAt Try.f49 [1,1,0,1,0,0,1,1,0,0,0]) a H K = gOps Try.prog 0 call (opsAt (fAt Try.f49 [1,1,0,1,0,0,1,1,0,0,0])) ((opsAt (fAt Try.f49 [1,1,0,1,0,0,1,1,0,0,0])).drop 0) a H (K .normal) := at_region (by kernel_rfl)
theorem n49_18 : gCode Try.prog call k (fAt Try.f49 [1,1,0,1,0,0,1,1,0,0,1]) a H K = gCode Try.prog call k (fAt Try.f49 [1,1,0,1,0,0,1,1,0,0,1,0]) a H (hSeq (gCode Try.prog call k (fAt Try.f49 [1,1,0,1,0,0,1,1,0,0,1,1])) K) := at_seq (by kernel_rfl)
theorem n49_19 : gCode Try.prog call k (fAt Try.f49 [1,1,0,1,0,0,1,1,0,0,1,0]) a H K = gCode Try.prog call k (fAt Try.f49 [1,1,0,1,0,0,1,1,0,0,1,0,0]) a H (hSeq (gCode Try.prog call k (fAt Try.f49 [1,1,0,1,0,0,1,1,0,0,1,0,1])) K) := at_seq (by kernel_rfl)
theorem n49_20 : gCode Try.prog call k (fAt Try.f49 [1,1,0,1,0,0,1,1,0,0,1,0,0]) a H K = gOps Try.prog 0 call (opsAt (fAt Try.f49 [1,1,0,1,0,0,1,1,0,0,1,0,0])) ((opsAt (fAt Try.f49 [1,1,0,1,0,0,1,1,0,0,1,0,0])).drop 0) a H (K .normal) := at_region (by kernel_rfl)
theorem n49_21 : gCode Try.prog call k (fAt Try.f49 [1,1,0,1,0,0,1,1,0,0,1,0,1]) a H K = onBool (asB (GA.eval a (.tmp 15))) (gCode Try.prog call k (fAt Try.f49 [1,1,0,1,0,0,1,1,0,0,1,0,1,0]) a H K) (gCode Try.prog call k (fAt Try.f49 [1,1,0,1,0,0,1,1,0,0,1,0,1,1]) a H K) := at_cond (by kernel_rfl)
theorem n49_22 : gCode Try.prog call k (fAt Try.f49 [1,1,0,1,0,0,1,1,0,0,1,0,1,0]) a H K = gCode Try.prog call k (fAt Try.f49 [1,1,0,1,0,0,1,1,0,0,1,0,1,0,0]) a H (hSeq (gCode Try.prog call k (fAt Try.f49 [1,1,0,1,0,0,1,1,0,0,1,0,1,0,1])) K) := at_seq (by kernel_rfl)
theorem n49_23 : gCode Try.prog call k (fAt Try.f49 [1,1,0,1,0,0,1,1,0,0,1,0,1,0,0]) a H K = gOps Try.prog 0 call (opsAt (fAt Try.f49 [1,1,0,1,0,0,1,1,0,0,1,0,1,0,0])) ((opsAt (fAt Try.f49 [1,1,0,1,0,0,1,1,0,0,1,0,1,0,0])).drop 0) a H (K .normal) := at_region (by kernel_rfl)
theorem n49_24 : gCode Try.prog call k (fAt Try.f49 [1,1,0,1,0,0,1,1,0,0,1,0,1,0,1]) a H K = K .ret a H := at_ret (by kernel_rfl)
theorem n49_25 : gCode Try.prog call k (fAt Try.f49 [1,1,0,1,0,0,1,1,0,0,1,0,1,1]) a H K = K .normal a H := at_skip (by kernel_rfl)
theorem n49_26 : gCode Try.prog call k (fAt Try.f49 [1,1,0,1,0,0,1,1,0,0,1,1]) a H K = gOps Try.prog 0 call (opsAt (fAt Try.f49 [1,1,0,1,0,0,1,1,0,0,1,1])) ((opsAt (fAt Try.f49 [1,1,0,1,0,0,1,1,0,0,1,1])).drop 0) a H (K .normal) := at_region (by kernel_rfl)
theorem n49_27 : gCode Try.prog call k (fAt Try.f49 [1,1,0,1,0,0,1,1,1]) a H K = gOps Try.prog 0 call (opsAt (fAt Try.f49 [1,1,0,1,0,0,1,1,1])) ((opsAt (fAt Try.f49 [1,1,0,1,0,0,1,1,1])).drop 0) a H (K .normal) := at_region (by kernel_rfl)
theorem n49_28 : gCode Try.prog call k (fAt Try.f49 [1,1,0,1,0,0,1,0,1]) a H K = K (.exit 0) a H := at_exit (by kernel_rfl)
theorem n49_29 : gCode Try.prog call k (fAt Try.f49 [1,1,1]) a H K = gCode Try.prog call k (fAt Try.f49 [1,1,1,0]) a H (hSeq (gCode Try.prog call k (fAt Try.f49 [1,1,1,1])) K) := at_seq (by kernel_rfl)
theorem n49_30 : gCode Try.prog call k (fAt Try.f49 [1,1,1,0]) a H K = gOps Try.prog 0 call (opsAt (fAt Try.f49 [1,1,1,0])) ((opsAt (fAt Try.f49 [1,1,1,0])).drop 0) a H (K .normal) := at_region (by kernel_rfl)
theorem n49_31 : gCode Try.prog call k (fAt Try.f49 [1,1,1,1]) a H K = K .ret a H := at_ret (by kernel_rfl)
theorem s49_0 : gOps Try.prog 0 call (opsAt (fAt Try.f49 [0])) ((opsAt (fAt Try.f49 [0])).drop 0) (p0::undef::undef::undef::undef::undef::undef::undef::undef::undef::undef::undef::undef::undef::undef::undef::undef::undef::undef::[]) H K' =
  K' (p0::undef::(.bool false)::undef::undef::undef::undef::undef::undef::undef::undef::undef::undef::undef::undef::undef::undef::undef::undef::[]) H := by kernel_rfl
theorem s49_1 : gOps Try.prog 0 call (opsAt (fAt Try.f49 [1,0])) ((opsAt (fAt Try.f49 [1,0])).drop 0) (p0::undef::(.bool false)::undef::undef::undef::undef::undef::undef::undef::undef::undef::undef::undef::undef::undef::undef::undef::undef::[]) H K' =
  K' (p0::undef::(.bool false)::(.map (some H.n))::undef::undef::(.map (some H.n))::undef::undef::undef::undef::undef::undef::undef::undef::undef::undef::undef::undef::[]) (GH.push H (.map [] 0)) := by kernel_rfl
theorem s49_2 : gOps Try.prog 0 call (opsAt (fAt Try.f49 [1,1,0,0])) ((opsAt (fAt Try.f49 [1,1,0,0])).drop 0) (p0::undef::(.bool false)::(.map (some H.n))::undef::undef::(.map (some H.n))::undef::undef::undef::undef::undef::undef::undef::undef::undef::undef::undef::undef::[]) (GH.push H (.map [] 0)) K' =
  onV (oLen Try.prog 26 p0) fun v1 =>
  K' (p0::undef::(.bool false)::(.map (some H.n))::undef::undef::(.map (some H.n))::p0::v1::(.int .i64 0)::undef::undef::undef::undef::undef::undef::undef::undef::undef::[]) (GH.push H (.map [] 0)) := by kernel_rfl
theorem s49_3 : gOps Try.prog 0 call (opsAt (fAt Try.f49 [1,1,0,1,0,0,0])) ((opsAt (fAt Try.f49 [1,1,0,1,0,0,0])).drop 0) (x0::x1::x2::x3::x4::x5::x6::x7::x8::x9::x10::x11::x12::x13::x14::x15::x16::x17::x18::[]) H K' =
  onV ((oBin Try.prog .lss 3 x9 x8).filter closed) fun v1 =>
  K' (x0::x1::x2::x3::x4::x5::x6::x7::x8::x9::v1::x11::x12::x13::x14::x15::x16::x17::x18::[]) H := by kernel_rfl
theorem s49_4 : gOps Try.prog 0 call (opsAt (fAt Try.f49 [1,1,0,1,0,0,1,1,0,0,0])) ((opsAt (fAt Try.f49 [1,1,0,1,0,0,1,1,0,0,0])).drop 0) (x0::x1::x2::x3::x4::x5::x6::x7::x8::x9::v1::x11::x12::x13::x14::x15::x16::x17::x18::[]) H K' =
  onV (oIndexAddr Try.prog 26 x7 x9) fun v2 =>
  onV (gLoad Try.prog 29 v2 H) fun v3 =>
  onH (gStore Try.prog 29 (.pointer (some ⟨H.n, 0, none⟩)) v3 (GH.push H (.row [(.int .u8 0), (.int .i64 0)] 29 false))) fun H4 =>
  K' (x0::x1::x2::x3::x4::(.pointer (some ⟨H.n, 0, none⟩))::x6::x7::x8::x9::v1::v2::v3::x13::x14::x15::x16::x17::x18::[]) H4 := by kernel_rfl
theorem s49_5 : gOps Try.prog 0 call (opsAt (fAt Try.f49 [1,1,0,1,0,0,1,1,0,0,1,0,0])) ((opsAt (fAt Try.f49 [1,1,0,1,0,0,1,1,0,0,1,0,0])).drop 0) (x0::x1::x2::x3::x4::(.pointer (some ⟨H.n, 0, none⟩))::x6::x7::x8::x9::v1::v2::v3::x13::x14::x15::x16::x17::x18::[]) H4 K' =
  onV (gLoad Try.prog 29 (.pointer (some ⟨H.n, 0, none⟩)) H4) fun v5 =>
  onV (gLookup Try.prog 205 x3 v5 false H4) fun v6 =>
  K' (x0::x1::x2::x3::x4::(.pointer (some ⟨H.n, 0, none⟩))::x6::x7::x8::x9::v1::v2::v3::x3::v5::v6::x16::x17::x18::[]) H4 := by kernel_rfl
theorem s49_6 : gOps Try.prog 0 call (opsAt (fAt Try.f49 [1,1,0,1,0,0,1,1,0,0,1,0,1,0,0])) ((opsAt (fAt Try.f49 [1,1,0,1,0,0,1,1,0,0,1,0,1,0,0])).drop 0) (x0::x1::x2::x3::x4::(.pointer (some ⟨H.n, 0, none⟩))::x6::x7::x8::x9::v1::v2::v3::x3::v5::v6::x16::x17::x18::[]) H4 K' =
  K' (x0::x1::(.bool true)::x3::x4::(.pointer (some ⟨H.n, 0, none⟩))::x6::x7::x8::x9::v1::v2::v3::x3::v5::v6::x16::x17::x18::[]) H4 := by kernel_rfl
theorem s49_7 : gOps Try.prog 0 call (opsAt (fAt Try.f49 [1,1,0,1,0,0,1,1,0,0,1,1])) ((opsAt (fAt Try.f49 [1,1,0,1,0,0,1,1,0,0,1,1])).drop 0) (x0::x1::x2::x3::x4::(.pointer (some ⟨H.n, 0, none⟩))::x6::x7::x8::x9::v1::v2::v3::x3::v5::v6::x16::x17::x18::[]) H4 K' =
  onV (gLoad Try.prog 29 (.pointer (some ⟨H.n, 0, none⟩)) H4) fun v7 =>
  onH (gMapUpdate Try.prog 205 x3 v7 (.bool true) H4) fun H8 =>
  K' (x0::x1::x2::x3::x4::(.pointer (some ⟨H.n, 0, none⟩))::x6::x7::x8::x9::v1::v2::v3::x3::v5::v6::x3::v7::x18::[]) H8 := by kernel_rfl
theorem s49_8 : gOps Try.prog 0 call (opsAt (fAt Try.f49 [1,1,0,1,0,0,1,1,1])) ((opsAt (fAt Try.f49 [1,1,0,1,0,0,1,1,1])).drop 0) (x0::x1::x2::x3::x4::(.pointer (some ⟨H.n, 0, none⟩))::x6::x7::x8::x9::v1::v2::v3::x3::v5::v6::x3::v7::x18::[]) H8 K' =
  onV ((oBin Try.prog .add 3 x9 (.int .i64 1)).filter closed) fun v9 =>
  K' (x0::x1::x2::x3::x4::(.pointer (some ⟨H.n, 0, none⟩))::x6::x7::x8::v9::v1::v2::v3::x3::v5::v6::x3::v7::v9::[]) H8 := by kernel_rfl
theorem s49_9 : gOps Try.prog 0 call (opsAt (fAt Try.f49 [1,1,1,0])) ((opsAt (fAt Try.f49 [1,1,1,0])).drop 0) (x0::x1::x2::x3::x4::x5::x6::x7::x8::x9::v1::x11::x12::x13::x14::x15::x16::x17::x18::[]) H K' =
  K' (x0::x1::(.bool false)::x3::x4::x5::x6::x7::x8::x9::v1::x11::x12::x13::x14::x15::x16::x17::x18::[]) H := by kernel_rfl
def f49_l3_P (ag : GA → GH → M (Value × GH)) (sg : Value → Value → Value → Value → GH → M (Value × GH)) : Prop := ∀ (x0 x1 x2 x3 x4 x5 x6 x7 x8 x9 x10 x11 x12 x13 x14 x15 x16 x17 x18 : Value) (H : GH), ag (x0::x1::x2::x3::x4::x5::x6::x7::x8::x9::x10::x11::x12::x13::x14::x15::x16::x17::x18::[]) H = sg x3 x7 x8 x9 H
theorem f49_l3_at {ag : GA → GH → M (Value × GH)} {sg : Value → Value → Value → Value → GH → M (Value × GH)} (h : f49_l3_P ag sg) : ag (x0::x1::x2::x3::x4::x5::x6::x7::x8::x9::x10::x11::x12::x13::x14::x15::x16::x17::x18::[]) H = sg x3 x7 x8 x9 H := h x0 x1 x2 x3 x4 x5 x6 x7 x8 x9 x10 x11 x12 x13 x14 x15 x16 x17 x18 H
noncomputable def f49_l3b (call : Handle) (k : Nat) (sg_l3 : Value → Value → Value → Value → GH → M (Value × GH)) (x3 x7 x8 x9 : Value) (H : GH) : M (Value × GH) :=
  onV ((oBin Try.prog .lss 3 x9 x8).filter closed) fun v1 =>
  onBool (asB v1)
  (onV (oIndexAddr Try.prog 26 x7 x9) fun v2 =>
  onV (gLoad Try.prog 29 v2 H) fun v3 =>
  onH (gStore Try.prog 29 (.pointer (some ⟨H.n, 0, none⟩)) v3 (GH.push H (.row [(.int .u8 0), (.int .i64 0)] 29 false))) fun H4 =>
  onV (gLoad Try.prog 29 (.pointer (some ⟨H.n, 0, none⟩)) H4) fun v5 =>
  onV (gLookup Try.prog 205 x3 v5 false H4) fun v6 =>
  onBool (asB v6)
  (some [((.bool true), H4)])
  (onV (gLoad Try.prog 29 (.pointer (some ⟨H.n, 0, none⟩)) H4) fun v7 =>
  onH (gMapUpdate Try.prog 205 x3 v7 (.bool true) H4) fun H8 =>
  onV ((oBin Try.prog .add 3 x9 (.int .i64 1)).filter closed) fun v9 =>
  (sg_l3 x3 x7 x8 v9 H8)))
  (some [((.bool false), H)])
theorem f49_l3b_eq (call : Handle) (k : Nat) (ag_l3 : GA → GH → M (Value × GH)) (sg_l3 : Value → Value → Value → Value → GH → M (Value × GH)) (h_l3 : f49_l3_P ag_l3 sg_l3) : gCode Try.prog call k (fAt Try.f49 [1,1,0,1,0,0]) (x0::x1::x2::x3::x4::x5::x6::x7::x8::x9::x10::x11::x12::x13::x14::x15::x16::x17::x18::[]) H (hLoop ag_l3 (hBlock 0 (hSeq (gCode Try.prog call k (fAt Try.f49 [1,1,1])) (hFin Try.prog Try.f49)))) = f49_l3b call k sg_l3 x3 x7 x8 x9 H := by
  unfold f49_l3b
  rw [n49_9]
  rw [n49_10]
  rw [s49_3]
  refine onV_c fun v1 => ?_
  rw [hSeq_n]
  rw [n49_11]
  rw [n49_12]
  refine onBool_cc rfl ?_ ?_
  · rw [n49_13]
    rw [hSeq_n]
    rw [n49_14]
    rw [n49_15]
    rw [n49_16]
    rw [n49_17]
    rw [s49_4]
    refine onV_c fun v2 => ?_
    refine onV_c fun v3 => ?_
    refine onH_c fun H4 => ?_
    rw [hSeq_n]
    rw [n49_18]
    rw [n49_19]
    rw [n49_20]
    rw [s49_5]
    refine onV_c fun v5 => ?_
    refine onV_c fun v6 => ?_
    rw [hSeq_n]
    rw [n49_21]
    refine onBool_cc rfl ?_ ?_
    · rw [n49_22]
      rw [n49_23]
      rw [s49_6]
      rw [hSeq_n]
      rw [n49_24]
      rw [hSeq_r, hBlock_r, hSeq_r, hLoop_r, hBlock_r, hSeq_r]
      exact fin49_ret
    · rw [n49_25]
      rw [hSeq_n]
      rw [n49_26]
      rw [s49_7]
      refine onV_c fun v7 => ?_
      refine onH_c fun H8 => ?_
      rw [hBlock_n]
      rw [hSeq_n]
      rw [n49_27]
      rw [s49_8]
      refine onV_c fun v9 => ?_
      rw [hLoop_n]
      exact f49_l3_at h_l3
  · rw [n49_28]
    rw [hSeq_e, hLoop_e, hBlock_hit]
    rw [hSeq_n]
    rw [n49_29]
    rw [n49_30]
    rw [s49_9]
    rw [hSeq_n]
    rw [n49_31]
    exact fin49_ret
noncomputable def f49_l3 (call : Handle) (k : Nat) : Nat → Value → Value → Value → Value → GH → M (Value × GH)
  | 0, _, _, _, _, _ => none
  | r + 1, x3, x7, x8, x9, H => f49_l3b call k (f49_l3 call k r) x3 x7 x8 x9 H
theorem f49_l3_eq (call : Handle) (k : Nat) : ∀ (r : Nat), f49_l3_P (gLoop (gCode Try.prog call k (fAt Try.f49 [1,1,0,1,0,0])) (hBlock 0 (hSeq (gCode Try.prog call k (fAt Try.f49 [1,1,1])) (hFin Try.prog Try.f49))) r) (f49_l3 call k r) := by
  intro r
  induction r with
  | zero => unfold f49_l3_P; intros; rfl
  | succ r ih => unfold f49_l3_P; intros; exact f49_l3b_eq call k _ _ ih
noncomputable def f49_sh (call : Handle) (k : Nat) (p0 : Value) (H : GH) : M (Value × GH) :=
  onV (oLen Try.prog 26 p0) fun v1 =>
  (f49_l3 call k k (.map (some H.n)) p0 v1 (.int .i64 0) (GH.push H (.map [] 0)))
theorem f49_run (call : Handle) (k : Nat) (p0 : Value) (H : GH) : gCode Try.prog call k (fAt Try.f49 []) (p0::undef::undef::undef::undef::undef::undef::undef::undef::undef::undef::undef::undef::undef::undef::undef::undef::undef::undef::[]) H (hFin Try.prog Try.f49) = f49_sh call k p0 H := by
  unfold f49_sh
  rw [n49_0]
  rw [n49_1]
  rw [s49_0]
  rw [hSeq_n]
  rw [n49_2]
  rw [n49_3]
  rw [s49_1]
  rw [hSeq_n]
  rw [n49_4]
  rw [n49_5]
  rw [n49_6]
  rw [s49_2]
  refine onV_c fun v1 => ?_
  rw [hSeq_n]
  rw [n49_7]
  rw [n49_8]
  exact f49_l3_at (f49_l3_eq call k k)
theorem f49_eq (call : Handle) (k : Nat) (p0 : Value) (H : GH) : gFunc Try.prog call k Try.f49 [p0] H = f49_sh call k p0 H :=
  Eq.trans (by kernel_rfl) (f49_run call k p0 H)
end
section
variable {β : Type} {call : Handle} {k : Nat} {a : GA} {K : Kont β} {K' : GA → GH → M β}
variable {x0 x1 x2 x3 x4 x5 x6 x7 x8 x9 x10 x11 x12 x13 x14 x15 x16 x17 x18 x19 x20 x21 x22 x23 x24 x25 x26 x27 x28 x29 x30 : Value}
variable {p0 : Value}
variable {v1 v2 v3 v4 v7 : Value}
variable {H H1 H3 H5 H8 : GH}
theorem fin9_normal : hFin Try.prog Try.f9 .normal (x0::x1::x2::x3::x4::x5::x6::x7::x8::x9::x10::x11::x12::x13::x14::x15::x16::x17::x18::x19::x20::x21::x22::x23::x24::x25::x26::x27::x28::x29::x30::[]) H =
  onV (gResL Try.prog H [(x2, some 27)]) fun v => some [(v, H)] := by kernel_rfl
theorem fin9_ret : hFin Try.prog Try.f9 .ret (x0::x1::x2::x3::x4::x5::x6::x7::x8::x9::x10::x11::x12::x13::x14::x15::x16::x17::x18::x19::x20::x21::x22::x23::x24::x25::x26::x27::x28::x29::x30::[]) H =
  onV (gResL Try.prog H [(x2, some 27)]) fun v => some [(v, H)] := by kernel_rfl
theorem n9_0 : gCode Try.prog call k (fAt Try.f9 []) a H K = gCode Try.prog call k (fAt Try.f9 [0]) a H (hSeq (gCode Try.prog call k (fAt Try.f9 [1])) K) := at_seq (by kernel_rfl)
theorem n9_1 : gCode Try.prog call k (fAt Try.f9 [0]) a H K = gOps Try.prog 0 call (opsAt (fAt Try.f9 [0])) ((opsAt (fAt Try.f9 [0])).drop 0) a H (K .normal) := at_region (by kernel_rfl)
theorem n9_2 : gCode Try.prog call k (fAt Try.f9 [1]) a H K = gCode Try.prog call k (fAt Try.f9 [1,0]) a H (hSeq (gCode Try.prog call k (fAt Try.f9 [1,1])) K) := at_seq (by kernel_rfl)
theorem n9_3 : gCode Try.prog call k (fAt Try.f9 [1,0]) a H K = gCode Try.prog call k (fAt Try.f9 [1,0,0]) a H (hSeq (gCode Try.prog call k (fAt Try.f9 [1,0,1])) K) := at_seq (by kernel_rfl)
theorem n9_4 : gCode Try.prog call k (fAt Try.f9 [1,0,0]) a H K = gOps Try.prog 0 call (opsAt (fAt Try.f9 [1,0,0])) ((opsAt (fAt Try.f9 [1,0,0])).drop 0) a H (K .normal) := at_region (by kernel_rfl)
theorem n9_5 : gCode Try.prog call k (fAt Try.f9 [1,0,1]) a H K = onBool (asB (GA.eval a (.tmp 15))) (gCode Try.prog call k (fAt Try.f9 [1,0,1,0]) a H K) (gCode Try.prog call k (fAt Try.f9 [1,0,1,1]) a H K) := at_cond (by kernel_rfl)
theorem n9_6 : gCode Try.prog call k (fAt Try.f9 [1,0,1,0]) a H K = gCode Try.prog call k (fAt Try.f9 [1,0,1,0,0]) a H (hSeq (gCode Try.prog call k (fAt Try.f9 [1,0,1,0,1])) K) := at_seq (by kernel_rfl)
theorem n9_7 : gCode Try.prog call k (fAt Try.f9 [1,0,1,0,0]) a H K = gOps Try.prog 0 call (opsAt (fAt Try.f9 [1,0,1,0,0])) ((opsAt (fAt Try.f9 [1,0,1,0,0])).drop 0) a H (K .normal) := at_region (by kernel_rfl)
theorem n9_8 : gCode Try.prog call k (fAt Try.f9 [1,0,1,0,1]) a H K = K .ret a H := at_ret (by kernel_rfl)
theorem n9_9 : gCode Try.prog call k (fAt Try.f9 [1,0,1,1]) a H K = K .normal a H := at_skip (by kernel_rfl)
theorem n9_10 : gCode Try.prog call k (fAt Try.f9 [1,1]) a H K = gCode Try.prog call k (fAt Try.f9 [1,1,0]) a H (hSeq (gCode Try.prog call k (fAt Try.f9 [1,1,1])) K) := at_seq (by kernel_rfl)
theorem n9_11 : gCode Try.prog call k (fAt Try.f9 [1,1,0]) a H K = gCode Try.prog call k (fAt Try.f9 [1,1,0,0]) a H (hSeq (gCode Try.prog call k (fAt Try.f9 [1,1,0,1])) K) := at_seq (by kernel_rfl)
theorem n9_12 : gCode Try.prog call k (fAt Try.f9 [1,1,0,0]) a H K = gOps Try.prog 0 call (opsAt (fAt Try.f9 [1,1,0,0])) ((opsAt (fAt Try.f9 [1,1,0,0])).drop 0) a H (K .normal) := at_region (by kernel_rfl)
theorem n9_13 : gCode Try.prog call k (fAt Try.f9 [1,1,0,1]) a H K = gCode Try.prog call k (fAt Try.f9 [1,1,0,1,0]) a H (hBlock 0 K) := at_block (by kernel_rfl)
theorem n9_14 : gCode Try.prog call k (fAt Try.f9 [1,1,0,1,0]) a H K = onFunc (GA.eval a (.tmp 17)) fun g => bindM (call g [.func (.yield H.n) #[] #[]] (GH.push H (.loop .ready none a [18, 19] (fAt Try.f9 [1,1,0,1,0,0]) (fAt Try.f9 [1,1,0,1,0,1])))) fun z => onEnd H.n z.2 (fun H => K .normal a H) (fun H => K .ret a H) (fun id H => K (.exit id) a H) := at_rangeFunc (ps := #[18, 19]) (by kernel_rfl)
theorem n9_15 : gCode Try.prog call k (fAt Try.f9 [1,1,0,1,0,0]) a H K = gOps Try.prog 0 call (opsAt (fAt Try.f9 [1,1,0,1,0,0])) ((opsAt (fAt Try.f9 [1,1,0,1,0,0])).drop 0) a H (K .normal) := at_region (by kernel_rfl)
theorem n9_16 : gCode Try.prog call k (fAt Try.f9 [1,1,0,1,0,1]) a H K = gCode Try.prog call k (fAt Try.f9 [1,1,0,1,0,1,0]) a H (hBlock 1 K) := at_block (by kernel_rfl)
theorem n9_17 : gCode Try.prog call k (fAt Try.f9 [1,1,0,1,0,1,0]) a H K = gCode Try.prog call k (fAt Try.f9 [1,1,0,1,0,1,0,0]) a H (hSeq (gCode Try.prog call k (fAt Try.f9 [1,1,0,1,0,1,0,1])) K) := at_seq (by kernel_rfl)
theorem n9_18 : gCode Try.prog call k (fAt Try.f9 [1,1,0,1,0,1,0,0]) a H K = gOps Try.prog 0 call (opsAt (fAt Try.f9 [1,1,0,1,0,1,0,0])) ((opsAt (fAt Try.f9 [1,1,0,1,0,1,0,0])).drop 0) a H (K .normal) := at_region (by kernel_rfl)
theorem n9_19 : gCode Try.prog call k (fAt Try.f9 [1,1,0,1,0,1,0,1]) a H K = onBool (asB (GA.eval a (.tmp 22))) (gCode Try.prog call k (fAt Try.f9 [1,1,0,1,0,1,0,1,0]) a H K) (gCode Try.prog call k (fAt Try.f9 [1,1,0,1,0,1,0,1,1]) a H K) := at_cond (by kernel_rfl)
theorem n9_20 : gCode Try.prog call k (fAt Try.f9 [1,1,0,1,0,1,0,1,0]) a H K = gCode Try.prog call k (fAt Try.f9 [1,1,0,1,0,1,0,1,0,0]) a H (hSeq (gCode Try.prog call k (fAt Try.f9 [1,1,0,1,0,1,0,1,0,1])) K) := at_seq (by kernel_rfl)
theorem n9_21 : gCode Try.prog call k (fAt Try.f9 [1,1,0,1,0,1,0,1,0,0]) a H K = gOps Try.prog 0 call (opsAt (fAt Try.f9 [1,1,0,1,0,1,0,1,0,0])) ((opsAt (fAt Try.f9 [1,1,0,1,0,1,0,1,0,0])).drop 0) a H (K .normal) := at_region (by kernel_rfl)
theorem n9_22 : gCode Try.prog call k (fAt Try.f9 [1,1,0,1,0,1,0,1,0,1]) a H K = K .ret a H := at_ret (by kernel_rfl)
theorem n9_23 : gCode Try.prog call k (fAt Try.f9 [1,1,0,1,0,1,0,1,1]) a H K = K .normal a H := at_skip (by kernel_rfl)
theorem n9_24 : gCode Try.prog call k (fAt Try.f9 [1,1,1]) a H K = gCode Try.prog call k (fAt Try.f9 [1,1,1,0]) a H (hSeq (gCode Try.prog call k (fAt Try.f9 [1,1,1,1])) K) := at_seq (by kernel_rfl)
theorem n9_25 : gCode Try.prog call k (fAt Try.f9 [1,1,1,0]) a H K = gOps Try.prog 0 call (opsAt (fAt Try.f9 [1,1,1,0])) ((opsAt (fAt Try.f9 [1,1,1,0])).drop 0) a H (K .normal) := at_region (by kernel_rfl)
theorem n9_26 : gCode Try.prog call k (fAt Try.f9 [1,1,1,1]) a H K = gCode Try.prog call k (fAt Try.f9 [1,1,1,1,0]) a H (hSeq (gCode Try.prog call k (fAt Try.f9 [1,1,1,1,1])) K) := at_seq (by kernel_rfl)
theorem n9_27 : gCode Try.prog call k (fAt Try.f9 [1,1,1,1,0]) a H K = gCode Try.prog call k (fAt Try.f9 [1,1,1,1,0,0]) a H (hBlock 2 K) := at_block (by kernel_rfl)
theorem n9_28 : gCode Try.prog call k (fAt Try.f9 [1,1,1,1,0,0]) a H K = gCode Try.prog call k (fAt Try.f9 [1,1,1,1,0,0,0]) a H (hSeq (gCode Try.prog call k (fAt Try.f9 [1,1,1,1,0,0,1])) K) := at_seq (by kernel_rfl)
theorem n9_29 : gCode Try.prog call k (fAt Try.f9 [1,1,1,1,0,0,0]) a H K = gOps Try.prog 0 call (opsAt (fAt Try.f9 [1,1,1,1,0,0,0])) ((opsAt (fAt Try.f9 [1,1,1,1,0,0,0])).drop 0) a H (K .normal) := at_region (by kernel_rfl)
theorem n9_30 : gCode Try.prog call k (fAt Try.f9 [1,1,1,1,0,0,1]) a H K = onBool (asB (GA.eval a (.tmp 25))) (gCode Try.prog call k (fAt Try.f9 [1,1,1,1,0,0,1,0]) a H K) (gCode Try.prog call k (fAt Try.f9 [1,1,1,1,0,0,1,1]) a H K) := at_cond (by kernel_rfl)
theorem n9_31 : gCode Try.prog call k (fAt Try.f9 [1,1,1,1,0,0,1,0]) a H K = gCode Try.prog call k (fAt Try.f9 [1,1,1,1,0,0,1,0,0]) a H (hSeq (gCode Try.prog call k (fAt Try.f9 [1,1,1,1,0,0,1,0,1])) K) := at_seq (by kernel_rfl)
theorem n9_32 : gCode Try.prog call k (fAt Try.f9 [1,1,1,1,0,0,1,0,0]) a H K = gOps Try.prog 0 call (opsAt (fAt Try.f9 [1,1,1,1,0,0,1,0,0])) ((opsAt (fAt Try.f9 [1,1,1,1,0,0,1,0,0])).drop 0) a H (K .normal) := at_region (by kernel_rfl)
theorem n9_33 : gCode Try.prog call k (fAt Try.f9 [1,1,1,1,0,0,1,0,1]) a H K = K .ret a H := at_ret (by kernel_rfl)
theorem n9_34 : gCode Try.prog call k (fAt Try.f9 [1,1,1,1,0,0,1,1]) a H K = gCode Try.prog call k (fAt Try.f9 [1,1,1,1,0,0,1,1,0]) a H (hSeq (gCode Try.prog call k (fAt Try.f9 [1,1,1,1,0,0,1,1,1])) K) := at_seq (by kernel_rfl)
theorem n9_35 : gCode Try.prog call k (fAt Try.f9 [1,1,1,1,0,0,1,1,0]) a H K = gOps Try.prog 0 call (opsAt (fAt Try.f9 [1,1,1,1,0,0,1,1,0])) ((opsAt (fAt Try.f9 [1,1,1,1,0,0,1,1,0])).drop 0) a H (K .normal) := at_region (by kernel_rfl)
theorem n9_36 : gCode Try.prog call k (fAt Try.f9 [1,1,1,1,0,0,1,1,1]) a H K = onBool (asB (GA.eval a (.tmp 28))) (gCode Try.prog call k (fAt Try.f9 [1,1,1,1,0,0,1,1,1,0]) a H K) (gCode Try.prog call k (fAt Try.f9 [1,1,1,1,0,0,1,1,1,1]) a H K) := at_cond (by kernel_rfl)
theorem n9_37 : gCode Try.prog call k (fAt Try.f9 [1,1,1,1,0,0,1,1,1,0]) a H K = gCode Try.prog call k (fAt Try.f9 [1,1,1,1,0,0,1,1,1,0,0]) a H (hSeq (gCode Try.prog call k (fAt Try.f9 [1,1,1,1,0,0,1,1,1,0,1])) K) := at_seq (by kernel_rfl)
theorem n9_38 : gCode Try.prog call k (fAt Try.f9 [1,1,1,1,0,0,1,1,1,0,0]) a H K = gOps Try.prog 0 call (opsAt (fAt Try.f9 [1,1,1,1,0,0,1,1,1,0,0])) ((opsAt (fAt Try.f9 [1,1,1,1,0,0,1,1,1,0,0])).drop 0) a H (K .normal) := at_region (by kernel_rfl)
theorem n9_39 : gCode Try.prog call k (fAt Try.f9 [1,1,1,1,0,0,1,1,1,0,1]) a H K = K .ret a H := at_ret (by kernel_rfl)
theorem n9_40 : gCode Try.prog call k (fAt Try.f9 [1,1,1,1,0,0,1,1,1,1]) a H K = K .normal a H := at_skip (by kernel_rfl)
theorem n9_41 : gCode Try.prog call k (fAt Try.f9 [1,1,1,1,1]) a H K = gCode Try.prog call k (fAt Try.f9 [1,1,1,1,1,0]) a H (hSeq (gCode Try.prog call k (fAt Try.f9 [1,1,1,1,1,1])) K) := at_seq (by kernel_rfl)
theorem n9_42 : gCode Try.prog call k (fAt Try.f9 [1,1,1,1,1,0]) a H K = gOps Try.prog 0 call (opsAt (fAt Try.f9 [1,1,1,1,1,0])) ((opsAt (fAt Try.f9 [1,1,1,1,1,0])).drop 0) a H (K .normal) := at_region (by kernel_rfl)
theorem n9_43 : gCode Try.prog call k (fAt Try.f9 [1,1,1,1,1,1]) a H K = K .ret a H := at_ret (by kernel_rfl)
theorem s9_0 : gOps Try.prog 0 call (opsAt (fAt Try.f9 [0])) ((opsAt (fAt Try.f9 [0])).drop 0) (p0::undef::undef::undef::undef::undef::undef::undef::undef::undef::undef::undef::undef::undef::undef::undef::undef::undef::undef::undef::undef::undef::undef::undef::undef::undef::undef::undef::undef::undef::undef::[]) H K' =
  K' (p0::(.pointer (some ⟨H.n, 0, none⟩))::(.pointer (some ⟨(GH.push H (.row (Value.cells p0).toList 24 false)).n, 0, none⟩))::undef::undef::undef::undef::undef::undef::undef::undef::undef::undef::undef::undef::undef::undef::undef::undef::undef::undef::undef::undef::undef::undef::undef::undef::undef::undef::undef::undef::[]) (GH.push (GH.push H (.row (Value.cells p0).toList 24 false)) (.row [(.int .i64 0)] 27 false)) := by kernel_rfl
theorem s9_1 : gOps Try.prog 0 call (opsAt (fAt Try.f9 [1,0,0])) (((opsAt (fAt Try.f9 [1,0,0])).drop 0).take 5) (p0::(.pointer (some ⟨H.n, 0, none⟩))::(.pointer (some ⟨(GH.push H (.row (Value.cells p0).toList 24 false)).n, 0, none⟩))::undef::undef::undef::undef::undef::undef::undef::undef::undef::undef::undef::undef::undef::undef::undef::undef::undef::undef::undef::undef::undef::undef::undef::undef::undef::undef::undef::undef::[]) (GH.push (GH.push H (.row (Value.cells p0).toList 24 false)) (.row [(.int .i64 0)] 27 false)) K' =
  onV (gLoad Try.prog 22 (.pointer (some ⟨H.n, 0, none⟩)) (GH.push (GH.push H (.row (Value.cells p0).toList 24 false)) (.row [(.int .i64 0)] 27 false))) fun v1 =>
  onV (oLen Try.prog 22 v1) fun v2 =>
  onV ((oBin Try.prog .gtr 3 v2 (.int .i64 40)).filter closed) fun v3 =>
  K' (p0::(.pointer (some ⟨H.n, 0, none⟩))::(.pointer (some ⟨(GH.push H (.row (Value.cells p0).toList 24 false)).n, 0, none⟩))::undef::undef::undef::(.pointer (some ⟨H.n, 0, none⟩))::v1::v2::v3::v3::undef::undef::undef::undef::undef::undef::undef::undef::undef::undef::undef::undef::undef::undef::undef::undef::undef::undef::undef::undef::[]) (GH.push (GH.push H (.row (Value.cells p0).toList 24 false)) (.row [(.int .i64 0)] 27 false)) := by kernel_rfl
theorem s9_2 : gOps Try.prog 0 call (opsAt (fAt Try.f9 [1,0,0])) ((opsAt (fAt Try.f9 [1,0,0])).drop 5) (x0::x1::x2::undef::undef::undef::x6::x7::x8::x9::(.bool true)::x11::x12::x13::x14::x15::x16::x17::undef::undef::undef::undef::undef::undef::undef::undef::undef::undef::undef::undef::undef::[]) H K' =
  K' (x0::x1::x2::undef::undef::undef::x6::x7::x8::x9::(.bool true)::undef::undef::undef::undef::(.bool true)::x16::x17::undef::undef::undef::undef::undef::undef::undef::undef::undef::undef::undef::undef::undef::[]) H := by kernel_rfl
theorem s9_3 : gOps Try.prog 0 call (opsAt (fAt Try.f9 [1,0,1,0,0])) ((opsAt (fAt Try.f9 [1,0,1,0,0])).drop 0) (x0::x1::x2::undef::undef::undef::x6::x7::x8::x9::(.bool true)::undef::undef::undef::undef::(.bool true)::x16::x17::undef::undef::undef::undef::undef::undef::undef::undef::undef::undef::undef::undef::undef::[]) H K' =
  onH (gStore Try.prog 27 x2 (.int .i64 9) H) fun H1 =>
  K' (x0::x1::x2::undef::undef::undef::x6::x7::x8::x9::(.bool true)::undef::undef::undef::undef::(.bool true)::x16::x17::undef::undef::undef::undef::undef::undef::undef::undef::undef::undef::undef::undef::undef::[]) H1 := by kernel_rfl
theorem s9_4 : gOps Try.prog 0 call (opsAt (fAt Try.f9 [1,0,0])) ((opsAt (fAt Try.f9 [1,0,0])).drop 5) (x0::x1::x2::undef::undef::undef::x6::x7::x8::x9::(.bool false)::x11::x12::x13::x14::x15::x16::x17::undef::undef::undef::undef::undef::undef::undef::undef::undef::undef::undef::undef::undef::[]) H K' =
  onV (oFieldAddr Try.prog 24 x1 1) fun v1 =>
  onV (gLoad Try.prog 22 v1 H) fun v2 =>
  onV (oLen Try.prog 22 v2) fun v3 =>
  onV ((oBin Try.prog .gtr 3 v3 (.int .i64 40)).filter closed) fun v4 =>
  K' (x0::x1::x2::undef::undef::undef::x6::x7::x8::x9::(.bool false)::v1::v2::v3::v4::v4::x16::x17::undef::undef::undef::undef::undef::undef::undef::undef::undef::undef::undef::undef::undef::[]) H := by kernel_rfl
theorem s9_5 : gOps Try.prog 0 call (opsAt (fAt Try.f9 [1,0,1,0,0])) ((opsAt (fAt Try.f9 [1,0,1,0,0])).drop 0) (x0::x1::x2::undef::undef::undef::x6::x7::x8::x9::(.bool false)::v1::v2::v3::v4::v4::x16::x17::undef::undef::undef::undef::undef::undef::undef::undef::undef::undef::undef::undef::undef::[]) H K' =
  onH (gStore Try.prog 27 x2 (.int .i64 9) H) fun H5 =>
  K' (x0::x1::x2::undef::undef::undef::x6::x7::x8::x9::(.bool false)::v1::v2::v3::v4::v4::x16::x17::undef::undef::undef::undef::undef::undef::undef::undef::undef::undef::undef::undef::undef::[]) H5 := by kernel_rfl
theorem s9_6 : gOps Try.prog 0 call (opsAt (fAt Try.f9 [1,1,0,0])) ((opsAt (fAt Try.f9 [1,1,0,0])).drop 0) (x0::x1::x2::undef::undef::undef::x6::x7::x8::x9::(.bool false)::v1::v2::v3::v4::v4::x16::x17::undef::undef::undef::undef::undef::undef::undef::undef::undef::undef::undef::undef::undef::[]) H K' =
  onV (gLoad Try.prog 24 x1 H) fun v6 =>
  onCall 0 call (.func (.func 44) #[] #[]) [v6] H fun v7 H8 =>
  K' (x0::x1::x2::undef::undef::undef::x6::x7::x8::x9::(.bool false)::v1::v2::v3::v4::v4::v6::v7::undef::undef::undef::undef::undef::undef::undef::undef::undef::undef::undef::undef::undef::[]) H8 := by kernel_rfl
theorem s9_7 : gOps Try.prog 0 call (opsAt (fAt Try.f9 [1,1,0,1,0,0])) ((opsAt (fAt Try.f9 [1,1,0,1,0,0])).drop 0) (x0::x1::x2::x3::x4::x5::x6::x7::x8::x9::x10::x11::x12::x13::x14::x15::x16::x17::x18::x19::x20::x21::x22::x23::x24::x25::x26::x27::x28::x29::x30::[]) H K' =
  K' (x0::x1::x2::x3::x19::x5::x6::x7::x8::x9::x10::x11::x12::x13::x14::x15::x16::x17::x18::x19::x20::x21::x22::x23::x24::x25::x26::x27::x28::x29::x30::[]) H := by kernel_rfl
theorem s9_8 : gOps Try.prog 0 call (opsAt (fAt Try.f9 [1,1,0,1,0,1,0,0])) ((opsAt (fAt Try.f9 [1,1,0,1,0,1,0,0])).drop 0) (x0::x1::x2::x3::x19::x5::x6::x7::x8::x9::x10::x11::x12::x13::x14::x15::x16::x17::x18::x19::x20::x21::x22::x23::x24::x25::x26::x27::x28::x29::x30::[]) H1 K' =
  onV (oLen Try.prog 26 x19) fun v2 =>
  onV ((oBin Try.prog .gtr 3 v2 (.int .i64 4)).filter closed) fun v3 =>
  K' (x0::x1::x2::x3::x19::x5::x6::x7::x8::x9::x10::x11::x12::x13::x14::x15::x16::x17::x18::x19::x19::v2::v3::x23::x24::x25::x26::x27::x28::x29::x30::[]) H1 := by kernel_rfl
theorem s9_9 : gOps Try.prog 0 call (opsAt (fAt Try.f9 [1,1,0,1,0,1,0,1,0,0])) ((opsAt (fAt Try.f9 [1,1,0,1,0,1,0,1,0,0])).drop 0) (x0::x1::x2::x3::x19::x5::x6::x7::x8::x9::x10::x11::x12::x13::x14::x15::x16::x17::x18::x19::x19::v2::v3::x23::x24::x25::x26::x27::x28::x29::x30::[]) H1 K' =
  onH (gStore Try.prog 27 x2 (.int .i64 9) H1) fun H4 =>
  K' (x0::x1::x2::x3::x19::x5::x6::x7::x8::x9::x10::x11::x12::x13::x14::x15::x16::x17::x18::x19::x19::v2::v3::x23::x24::x25::x26::x27::x28::x29::x30::[]) H4 := by kernel_rfl
theorem s9_10 : gOps Try.prog 0 call (opsAt (fAt Try.f9 [1,1,1,0])) ((opsAt (fAt Try.f9 [1,1,1,0])).drop 0) (x0::x1::x2::x3::x4::x5::x6::x7::x8::x9::x10::x11::x12::x13::x14::x15::x16::x17::x18::x19::x20::x21::x22::x23::x24::x25::x26::x27::x28::x29::x30::[]) H K' =
  onV (gLoad Try.prog 24 x1 H) fun v1 =>
  onCall 0 call (.func (.func 45) #[] #[]) [v1] H fun v2 H3 =>
  K' (x0::x1::x2::x3::x4::v2::x6::x7::x8::x9::x10::x11::x12::x13::x14::x15::x16::x17::x18::x19::x20::x21::x22::v1::v2::x25::x26::x27::x28::x29::x30::[]) H3 := by kernel_rfl
theorem s9_11 : gOps Try.prog 0 call (opsAt (fAt Try.f9 [1,1,1,1,0,0,0])) ((opsAt (fAt Try.f9 [1,1,1,1,0,0,0])).drop 0) (x0::x1::x2::x3::x4::v2::x6::x7::x8::x9::x10::x11::x12::x13::x14::x15::x16::x17::x18::x19::x20::x21::x22::v1::v2::x25::x26::x27::x28::x29::x30::[]) H3 K' =
  onCall 0 call (.func (.func 46) #[] #[]) [v2, (.func (.func 47) #[] #[])] H3 fun v4 H5 =>
  K' (x0::x1::x2::x3::x4::v2::x6::x7::x8::x9::x10::x11::x12::x13::x14::x15::x16::x17::x18::x19::x20::x21::x22::v1::v2::v4::v2::v4::x28::x29::x30::[]) H5 := by kernel_rfl
theorem s9_12 : gOps Try.prog 0 call (opsAt (fAt Try.f9 [1,1,1,1,0,0,1,0,0])) ((opsAt (fAt Try.f9 [1,1,1,1,0,0,1,0,0])).drop 0) (x0::x1::x2::x3::x4::v2::x6::x7::x8::x9::x10::x11::x12::x13::x14::x15::x16::x17::x18::x19::x20::x21::x22::v1::v2::v4::v2::v4::x28::x29::x30::[]) H5 K' =
  onH (gStore Try.prog 27 x2 (.int .i64 1) H5) fun H6 =>
  K' (x0::x1::x2::x3::x4::v2::x6::x7::x8::x9::x10::x11::x12::x13::x14::x15::x16::x17::x18::x19::x20::x21::x22::v1::v2::v4::v2::v4::x28::x29::x30::[]) H6 := by kernel_rfl
theorem s9_13 : gOps Try.prog 0 call (opsAt (fAt Try.f9 [1,1,1,1,0,0,1,1,0])) ((opsAt (fAt Try.f9 [1,1,1,1,0,0,1,1,0])).drop 0) (x0::x1::x2::x3::x4::v2::x6::x7::x8::x9::x10::x11::x12::x13::x14::x15::x16::x17::x18::x19::x20::x21::x22::v1::v2::v4::v2::v4::x28::x29::x30::[]) H5 K' =
  onCall 0 call (.func (.func 49) #[] #[]) [v2] H5 fun v7 H8 =>
  K' (x0::x1::x2::x3::x4::v2::x6::x7::x8::x9::x10::x11::x12::x13::x14::x15::x16::x17::x18::x19::x20::x21::x22::v1::v2::v4::v2::v4::v7::v2::v7::[]) H8 := by kernel_rfl
theorem s9_14 : gOps Try.prog 0 call (opsAt (fAt Try.f9 [1,1,1,1,0,0,1,1,1,0,0])) ((opsAt (fAt Try.f9 [1,1,1,1,0,0,1,1,1,0,0])).drop 0) (x0::x1::x2::x3::x4::v2::x6::x7::x8::x9::x10::x11::x12::x13::x14::x15::x16::x17::x18::x19::x20::x21::x22::v1::v2::v4::v2::v4::v7::v2::v7::[]) H8 K' =
  onH (gStore Try.prog 27 x2 (.int .i64 8) H8) fun H9 =>
  K' (x0::x1::x2::x3::x4::v2::x6::x7::x8::x9::x10::x11::x12::x13::x14::x15::x16::x17::x18::x19::x20::x21::x22::v1::v2::v4::v2::v4::v7::v2::v7::[]) H9 := by kernel_rfl
theorem s9_15 : gOps Try.prog 0 call (opsAt (fAt Try.f9 [1,1,1,1,1,0])) ((opsAt (fAt Try.f9 [1,1,1,1,1,0])).drop 0) (x0::x1::x2::x3::x4::v2::x6::x7::x8::x9::x10::x11::x12::x13::x14::x15::x16::x17::x18::x19::x20::x21::x22::v1::v2::v4::v2::v4::v7::v2::v7::[]) H8 K' =
  onH (gStore Try.prog 27 x2 (.int .i64 0) H8) fun H10 =>
  K' (x0::x1::x2::x3::x4::v2::x6::x7::x8::x9::x10::x11::x12::x13::x14::x15::x16::x17::x18::x19::x20::x21::x22::v1::v2::v4::v2::v4::v7::v2::v7::[]) H10 := by kernel_rfl
noncomputable def f9_r7 (call : Handle) (k : Nat) (x1 x2 : Value) (H : GH) : M (Value × GH) :=
  onV (gLoad Try.prog 24 x1 H) fun v1 =>
  onCall 0 call (.func (.func 45) #[] #[]) [v1] H fun v2 H3 =>
  onCall 0 call (.func (.func 46) #[] #[]) [v2, (.func (.func 47) #[] #[])] H3 fun v4 H5 =>
  onBool (asB v4)
  (onH (gStore Try.prog 27 x2 (.int .i64 1) H5) fun H6 =>
  onV (gResL Try.prog H6 [(x2, some 27)]) fun v => some [(v, H6)])
  (onCall 0 call (.func (.func 49) #[] #[]) [v2] H5 fun v7 H8 =>
  onBool (asB v7)
  (onH (gStore Try.prog 27 x2 (.int .i64 8) H8) fun H9 =>
  onV (gResL Try.prog H9 [(x2, some 27)]) fun v => some [(v, H9)])
  (onH (gStore Try.prog 27 x2 (.int .i64 0) H8) fun H10 =>
  onV (gResL Try.prog H10 [(x2, some 27)]) fun v => some [(v, H10)]))
theorem f9_r7_eq (call : Handle) (k : Nat) : gCode Try.prog call k (fAt Try.f9 [1,1,1]) (x0::x1::x2::x3::x4::x5::x6::x7::x8::x9::x10::x11::x12::x13::x14::x15::x16::x17::x18::x19::x20::x21::x22::x23::x24::x25::x26::x27::x28::x29::x30::[]) H (hFin Try.prog Try.f9) = f9_r7 call k x1 x2 H := by
  unfold f9_r7
  rw [n9_24]
  rw [n9_25]
  rw [s9_10]
  refine onV_c fun v1 => ?_
  refine onCall_c fun v2 H3 => ?_
  rw [hSeq_n]
  rw [n9_26]
  rw [n9_27]
  rw [n9_28]
  rw [n9_29]
  rw [s9_11]
  refine onCall_c fun v4 H5 => ?_
  rw [hSeq_n]
  rw [n9_30]
  refine onBool_cc rfl ?_ ?_
  · rw [n9_31]
    rw [n9_32]
    rw [s9_12]
    refine onH_c fun H6 => ?_
    rw [hSeq_n]
    rw [n9_33]
    rw [hBlock_r, hSeq_r]
    exact fin9_ret
  · rw [n9_34]
    rw [n9_35]
    rw [s9_13]
    refine onCall_c fun v7 H8 => ?_
    rw [hSeq_n]
    rw [n9_36]
    refine onBool_cc rfl ?_ ?_
    · rw [n9_37]
      rw [n9_38]
      rw [s9_14]
      refine onH_c fun H9 => ?_
      rw [hSeq_n]
      rw [n9_39]
      rw [hBlock_r, hSeq_r]
      exact fin9_ret
    · rw [n9_40]
      rw [hBlock_n]
      rw [hSeq_n]
      rw [n9_41]
      rw [n9_42]
      rw [s9_15]
      refine onH_c fun H10 => ?_
      rw [hSeq_n]
      rw [n9_43]
      exact fin9_ret
noncomputable def f9_g1_5 (call : Handle) (k : Nat) (x10 : Value) (x0 x1 x2 x6 x7 x8 x9 : Value) (H : GH) : M (Value × GH) :=
 onBool (asB x10)
  (onH (gStore Try.prog 27 x2 (.int .i64 9) H) fun H1 =>
  onV (gResL Try.prog H1 [(x2, some 27)]) fun v => some [(v, H1)])
  (onV (oFieldAddr Try.prog 24 x1 1) fun v1 =>
  onV (gLoad Try.prog 22 v1 H) fun v2 =>
  onV (oLen Try.prog 22 v2) fun v3 =>
  onV ((oBin Try.prog .gtr 3 v3 (.int .i64 40)).filter closed) fun v4 =>
  onBool (asB v4)
  (onH (gStore Try.prog 27 x2 (.int .i64 9) H) fun H5 =>
  onV (gResL Try.prog H5 [(x2, some 27)]) fun v => some [(v, H5)])
  (onV (gLoad Try.prog 24 x1 H) fun v6 =>
  onCall 0 call (.func (.func 44) #[] #[]) [v6] H fun v7 H8 =>
  onFunc v7 fun g => bindM (call g [.func (.yield H8.n) #[] #[]] (GH.push H8 (.loop .ready none (x0::x1::x2::undef::undef::undef::x6::x7::x8::x9::(.bool false)::v1::v2::v3::v4::v4::v6::v7::undef::undef::undef::undef::undef::undef::undef::undef::undef::undef::undef::undef::undef::[]) [18, 19] (fAt Try.f9 [1,1,0,1,0,0]) (fAt Try.f9 [1,1,0,1,0,1])))) fun x =>
 onEnd H8.n x.2
  (fun H9 => (f9_r7 call k x1 x2 H9))
  (fun H9 => onV (gResL Try.prog H9 [(x2, some 27)]) fun v => some [(v, H9)])
  (fun i10 H9 => if i10 = 0 then ((f9_r7 call k x1 x2 H9)) else (none))))
theorem f9_g1_5_true (call : Handle) (k : Nat) : gOps Try.prog 0 call (opsAt (fAt Try.f9 [1,0,0])) ((opsAt (fAt Try.f9 [1,0,0])).drop 5) (x0::x1::x2::undef::undef::undef::x6::x7::x8::x9::(.bool true)::x11::x12::x13::x14::x15::x16::x17::undef::undef::undef::undef::undef::undef::undef::undef::undef::undef::undef::undef::undef::[]) H ((hSeq (gCode Try.prog call k (fAt Try.f9 [1,0,1])) (hSeq (gCode Try.prog call k (fAt Try.f9 [1,1])) (hFin Try.prog Try.f9))) .normal) =
  onH (gStore Try.prog 27 x2 (.int .i64 9) H) fun H1 =>
  onV (gResL Try.prog H1 [(x2, some 27)]) fun v => some [(v, H1)] := by
  rw [s9_2]
  rw [hSeq_n]
  rw [n9_5]
  refine (onBool_tt rfl).trans ?_
  rw [n9_6]
  rw [n9_7]
  rw [s9_3]
  refine onH_c fun H1 => ?_
  rw [hSeq_n]
  rw [n9_8]
  rw [hSeq_r]
  exact fin9_ret
theorem f9_g1_5_false (call : Handle) (k : Nat) : gOps Try.prog 0 call (opsAt (fAt Try.f9 [1,0,0])) ((opsAt (fAt Try.f9 [1,0,0])).drop 5) (x0::x1::x2::undef::undef::undef::x6::x7::x8::x9::(.bool false)::x11::x12::x13::x14::x15::x16::x17::undef::undef::undef::undef::undef::undef::undef::undef::undef::undef::undef::undef::undef::[]) H ((hSeq (gCode Try.prog call k (fAt Try.f9 [1,0,1])) (hSeq (gCode Try.prog call k (fAt Try.f9 [1,1])) (hFin Try.prog Try.f9))) .normal) =
  onV (oFieldAddr Try.prog 24 x1 1) fun v1 =>
  onV (gLoad Try.prog 22 v1 H) fun v2 =>
  onV (oLen Try.prog 22 v2) fun v3 =>
  onV ((oBin Try.prog .gtr 3 v3 (.int .i64 40)).filter closed) fun v4 =>
  onBool (asB v4)
  (onH (gStore Try.prog 27 x2 (.int .i64 9) H) fun H5 =>
  onV (gResL Try.prog H5 [(x2, some 27)]) fun v => some [(v, H5)])
  (onV (gLoad Try.prog 24 x1 H) fun v6 =>
  onCall 0 call (.func (.func 44) #[] #[]) [v6] H fun v7 H8 =>
  onFunc v7 fun g => bindM (call g [.func (.yield H8.n) #[] #[]] (GH.push H8 (.loop .ready none (x0::x1::x2::undef::undef::undef::x6::x7::x8::x9::(.bool false)::v1::v2::v3::v4::v4::v6::v7::undef::undef::undef::undef::undef::undef::undef::undef::undef::undef::undef::undef::undef::[]) [18, 19] (fAt Try.f9 [1,1,0,1,0,0]) (fAt Try.f9 [1,1,0,1,0,1])))) fun x =>
 onEnd H8.n x.2
  (fun H9 => (f9_r7 call k x1 x2 H9))
  (fun H9 => onV (gResL Try.prog H9 [(x2, some 27)]) fun v => some [(v, H9)])
  (fun i10 H9 => if i10 = 0 then ((f9_r7 call k x1 x2 H9)) else (none))) := by
  rw [s9_4]
  refine onV_c fun v1 => ?_
  refine onV_c fun v2 => ?_
  refine onV_c fun v3 => ?_
  refine onV_c fun v4 => ?_
  rw [hSeq_n]
  rw [n9_5]
  refine onBool_cc rfl ?_ ?_
  · rw [n9_6]
    rw [n9_7]
    rw [s9_5]
    refine onH_c fun H5 => ?_
    rw [hSeq_n]
    rw [n9_8]
    rw [hSeq_r]
    exact fin9_ret
  · rw [n9_9]
    rw [hSeq_n]
    rw [n9_10]
    rw [n9_11]
    rw [n9_12]
    rw [s9_6]
    refine onV_c fun v6 => ?_
    refine onCall_c fun v7 H8 => ?_
    rw [hSeq_n]
    rw [n9_13]
    rw [n9_14]
    refine onRange_cc rfl fun z => ?_
    refine onEnd_c (fun H9 => ?_) (fun H9 => ?_) (fun i10 H9 => ?_)
    · rw [hBlock_n]
      rw [hSeq_n]
      exact f9_r7_eq call k
    · rw [hBlock_r, hSeq_r]
      exact fin9_ret
    · rw [hBlock_e]
      refine ite_c ?_ ?_
      · rw [hSeq_n]
        exact f9_r7_eq call k
      · rw [hSeq_e]
        exact hFin_e
theorem f9_g1_5_eq (call : Handle) (k : Nat) : gOps Try.prog 0 call (opsAt (fAt Try.f9 [1,0,0])) ((opsAt (fAt Try.f9 [1,0,0])).drop 5) (x0::x1::x2::undef::undef::undef::x6::x7::x8::x9::x10::x11::x12::x13::x14::x15::x16::x17::undef::undef::undef::undef::undef::undef::undef::undef::undef::undef::undef::undef::undef::[]) H ((hSeq (gCode Try.prog call k (fAt Try.f9 [1,0,1])) (hSeq (gCode Try.prog call k (fAt Try.f9 [1,1])) (hFin Try.prog Try.f9))) .normal) =
  f9_g1_5 call k x10 x0 x1 x2 x6 x7 x8 x9 H := by
  cases x10 with
  | bool b => cases b with
    | true => exact f9_g1_5_true call k
    | false => exact f9_g1_5_false call k
  | _ => kernel_rfl
noncomputable def f9_R4 (call : Handle) (k : Nat) (L : Nat) (x2 x19 : Value) (H : GH) : M (Value × GH) :=
  onReady L H fun H1 =>
  onV (oLen Try.prog 26 x19) fun v2 =>
  onV ((oBin Try.prog .gtr 3 v2 (.int .i64 4)).filter closed) fun v3 =>
  onBool (asB v3)
  (onH (gStore Try.prog 27 x2 (.int .i64 9) H1) fun H4 =>
  hRound L .ret [] H4)
  (hRound L .normal [] H1)
theorem f9_R4_eq (call : Handle) (k : Nat) (L : Nat) : gCode Try.prog call k (fAt Try.f9 [1,1,0,1,0,0]) (x0::x1::x2::x3::x4::x5::x6::x7::x8::x9::x10::x11::x12::x13::x14::x15::x16::x17::x18::x19::x20::x21::x22::x23::x24::x25::x26::x27::x28::x29::x30::[]) H (hBegin Try.prog call k L (fAt Try.f9 [1,1,0,1,0,1])) = f9_R4 call k L x2 x19 H := by
  unfold f9_R4
  rw [n9_15]
  rw [s9_7]
  rw [hBegin_n]
  refine onReady_c fun H1 => ?_
  rw [n9_16]
  rw [n9_17]
  rw [n9_18]
  rw [s9_8]
  refine onV_c fun v2 => ?_
  refine onV_c fun v3 => ?_
  rw [hSeq_n]
  rw [n9_19]
  refine onBool_cc rfl ?_ ?_
  · rw [n9_20]
    rw [n9_21]
    rw [s9_9]
    refine onH_c fun H4 => ?_
    rw [hSeq_n]
    rw [n9_22]
    rw [hBlock_r]
    exact hRound_a
  · rw [n9_23]
    rw [hBlock_n]
    exact hRound_a
noncomputable def f9_sh (call : Handle) (k : Nat) (p0 : Value) (H : GH) : M (Value × GH) :=
  onV (gLoad Try.prog 22 (.pointer (some ⟨H.n, 0, none⟩)) (GH.push (GH.push H (.row (Value.cells p0).toList 24 false)) (.row [(.int .i64 0)] 27 false))) fun v1 =>
  onV (oLen Try.prog 22 v1) fun v2 =>
  onV ((oBin Try.prog .gtr 3 v2 (.int .i64 40)).filter closed) fun v3 =>
  (f9_g1_5 call k v3 p0 (.pointer (some ⟨H.n, 0, none⟩)) (.pointer (some ⟨(GH.push H (.row (Value.cells p0).toList 24 false)).n, 0, none⟩)) (.pointer (some ⟨H.n, 0, none⟩)) v1 v2 v3 (GH.push (GH.push H (.row (Value.cells p0).toList 24 false)) (.row [(.int .i64 0)] 27 false)))
theorem f9_run (call : Handle) (k : Nat) (p0 : Value) (H : GH) : gCode Try.prog call k (fAt Try.f9 []) (p0::undef::undef::undef::undef::undef::undef::undef::undef::undef::undef::undef::undef::undef::undef::undef::undef::undef::undef::undef::undef::undef::undef::undef::undef::undef::undef::undef::undef::undef::undef::[]) H (hFin Try.prog Try.f9) = f9_sh call k p0 H := by
  unfold f9_sh
  rw [n9_0]
  rw [n9_1]
  rw [s9_0]
  rw [hSeq_n]
  rw [n9_2]
  rw [n9_3]
  rw [n9_4]
  rw [gOps_split 0 5, s9_1]
  refine onV_c fun v1 => ?_
  refine onV_c fun v2 => ?_
  refine onV_c fun v3 => ?_
  exact f9_g1_5_eq call k
theorem f9_eq (call : Handle) (k : Nat) (p0 : Value) (H : GH) : gFunc Try.prog call k Try.f9 [p0] H = f9_sh call k p0 H :=
  Eq.trans (by kernel_rfl) (f9_run call k p0 H)
end
section
variable {β : Type} {call : Handle} {k : Nat} {a : GA} {K : Kont β} {K' : GA → GH → M β}
variable {x0 x1 x2 x3 x4 x5 x6 x7 x8 x9 x10 x11 x12 x13 x14 x15 x16 x17 x18 x19 x20 x21 x22 x23 x24 x25 x26 x27 x28 x29 x30 x31 x32 x33 x34 x35 x36 x37 x38 : Value}
variable {p0 p1 p2 : Value}
variable {v1 v2 v4 v5 v7 v8 v9 : Value}
variable {H H2 H3 H10 H11 : GH}
theorem fin10_normal : hFin Try.prog Try.f10 .normal (x0::x1::x2::x3::x4::x5::x6::x7::x8::x9::x10::x11::x12::x13::x14::x15::x16::x17::x18::x19::x20::x21::x22::x23::x24::x25::x26::x27::x28::x29::x30::x31::x32::x33::x34::x35::x36::x37::x38::[]) H =
  onV (gResL Try.prog H [(x6, some 24), (x7, none)]) fun v => some [(v, H)] := by kernel_rfl
theorem fin10_ret : hFin Try.prog Try.f10 .ret (x0::x1::x2::x3::x4::x5::x6::x7::x8::x9::x10::x11::x12::x13::x14::x15::x16::x17::x18::x19::x20::x21::x22::x23::x24::x25::x26::x27::x28::x29::x30::x31::x32::x33::x34::x35::x36::x37::x38::[]) H =
  onV (gResL Try.prog H [(x6, some 24), (x7, none)]) fun v => some [(v, H)] := by kernel_rfl
theorem n10_0 : gCode Try.prog call k (fAt Try.f10 []) a H K = gCode Try.prog call k (fAt Try.f10 [0]) a H (hSeq (gCode Try.prog call k (fAt Try.f10 [1])) K) := at_seq (by kernel_rfl)
theorem n10_1 : gCode Try.prog call k (fAt Try.f10 [0]) a H K = gOps Try.prog 0 call (opsAt (fAt Try.f10 [0])) ((opsAt (fAt Try.f10 [0])).drop 0) a H (K .normal) := at_region (by kernel_rfl)
theorem n10_2 : gCode Try.prog call k (fAt Try.f10 [1]) a H K = gCode Try.prog call k (fAt Try.f10 [1,0]) a H (hSeq (gCode Try.prog call k (fAt Try.f10 [1,1])) K) := at_seq (by kernel_rfl)
theorem n10_3 : gCode Try.prog call k (fAt Try.f10 [1,0]) a H K = gCode Try.prog call k (fAt Try.f10 [1,0,0]) a H (hSeq (gCode Try.prog call k (fAt Try.f10 [1,0,1])) K) := at_seq (by kernel_rfl)
theorem n10_4 : gCode Try.prog call k (fAt Try.f10 [1,0,0]) a H K = gOps Try.prog 0 call (opsAt (fAt Try.f10 [1,0,0])) ((opsAt (fAt Try.f10 [1,0,0])).drop 0) a H (K .normal) := at_region (by kernel_rfl)
theorem n10_5 : gCode Try.prog call k (fAt Try.f10 [1,0,1]) a H K = gCode Try.prog call k (fAt Try.f10 [1,0,1,0]) a H (hSeq (gCode Try.prog call k (fAt Try.f10 [1,0,1,1])) K) := at_seq (by kernel_rfl)
theorem n10_6 : gCode Try.prog call k (fAt Try.f10 [1,0,1,0]) a H K = gOps Try.prog 0 call (opsAt (fAt Try.f10 [1,0,1,0])) ((opsAt (fAt Try.f10 [1,0,1,0])).drop 0) a H (K .normal) := at_region (by kernel_rfl)
theorem n10_7 : gCode Try.prog call k (fAt Try.f10 [1,0,1,1]) a H K = onBool (asB (GA.eval a (.tmp 13))) (gCode Try.prog call k (fAt Try.f10 [1,0,1,1,0]) a H K) (gCode Try.prog call k (fAt Try.f10 [1,0,1,1,1]) a H K) := at_cond (by kernel_rfl)
theorem n10_8 : gCode Try.prog call k (fAt Try.f10 [1,0,1,1,0]) a H K = gCode Try.prog call k (fAt Try.f10 [1,0,1,1,0,0]) a H (hSeq (gCode Try.prog call k (fAt Try.f10 [1,0,1,1,0,1])) K) := at_seq (by kernel_rfl)
theorem n10_9 : gCode Try.prog call k (fAt Try.f10 [1,0,1,1,0,0]) a H K = gOps Try.prog 0 call (opsAt (fAt Try.f10 [1,0,1,1,0,0])) ((opsAt (fAt Try.f10 [1,0,1,1,0,0])).drop 0) a H (K .normal) := at_region (by kernel_rfl)
theorem n10_10 : gCode Try.prog call k (fAt Try.f10 [1,0,1,1,0,1]) a H K = K .ret a H := at_ret (by kernel_rfl)
theorem n10_11 : gCode Try.prog call k (fAt Try.f10 [1,0,1,1,1]) a H K = K .normal a H := at_skip (by kernel_rfl)
theorem n10_12 : gCode Try.prog call k (fAt Try.f10 [1,1]) a H K = gCode Try.prog call k (fAt Try.f10 [1,1,0]) a H (hSeq (gCode Try.prog call k (fAt Try.f10 [1,1,1])) K) := at_seq (by kernel_rfl)
theorem n10_13 : gCode Try.prog call k (fAt Try.f10 [1,1,0]) a H K = gCode Try.prog call k (fAt Try.f10 [1,1,0,0]) a H (hBlock 0 K) := at_block (by kernel_rfl)
theorem n10_14 : gCode Try.prog call k (fAt Try.f10 [1,1,0,0]) a H K = gCode Try.prog call k (fAt Try.f10 [1,1,0,0,0]) a H (hSeq (gCode Try.prog call k (fAt Try.f10 [1,1,0,0,1])) K) := at_seq (by kernel_rfl)
theorem n10_15 : gCode Try.prog call k (fAt Try.f10 [1,1,0,0,0]) a H K = gOps Try.prog 0 call (opsAt (fAt Try.f10 [1,1,0,0,0])) ((opsAt (fAt Try.f10 [1,1,0,0,0])).drop 0) a H (K .normal) := at_region (by kernel_rfl)
theorem n10_16 : gCode Try.prog call k (fAt Try.f10 [1,1,0,0,1]) a H K = onBool (asB (GA.eval a (.tmp 16))) (gCode Try.prog call k (fAt Try.f10 [1,1,0,0,1,0]) a H K) (gCode Try.prog call k (fAt Try.f10 [1,1,0,0,1,1]) a H K) := at_cond (by kernel_rfl)
theorem n10_17 : gCode Try.prog call k (fAt Try.f10 [1,1,0,0,1,0]) a H K = gCode Try.prog call k (fAt Try.f10 [1,1,0,0,1,0,0]) a H (hSeq (gCode Try.prog call k (fAt Try.f10 [1,1,0,0,1,0,1])) K) := at_seq (by kernel_rfl)
theorem n10_18 : gCode Try.prog call k (fAt Try.f10 [1,1,0,0,1,0,0]) a H K = gOps Try.prog 0 call (opsAt (fAt Try.f10 [1,1,0,0,1,0,0])) ((opsAt (fAt Try.f10 [1,1,0,0,1,0,0])).drop 0) a H (K .normal) := at_region (by kernel_rfl)
theorem n10_19 : gCode Try.prog call k (fAt Try.f10 [1,1,0,0,1,0,1]) a H K = K .ret a H := at_ret (by kernel_rfl)
theorem n10_20 : gCode Try.prog call k (fAt Try.f10 [1,1,0,0,1,1]) a H K = gCode Try.prog call k (fAt Try.f10 [1,1,0,0,1,1,0]) a H (hSeq (gCode Try.prog call k (fAt Try.f10 [1,1,0,0,1,1,1])) K) := at_seq (by kernel_rfl)
theorem n10_21 : gCode Try.prog call k (fAt Try.f10 [1,1,0,0,1,1,0]) a H K = gOps Try.prog 0 call (opsAt (fAt Try.f10 [1,1,0,0,1,1,0])) ((opsAt (fAt Try.f10 [1,1,0,0,1,1,0])).drop 0) a H (K .normal) := at_region (by kernel_rfl)
theorem n10_22 : gCode Try.prog call k (fAt Try.f10 [1,1,0,0,1,1,1]) a H K = onBool (asB (GA.eval a (.tmp 25))) (gCode Try.prog call k (fAt Try.f10 [1,1,0,0,1,1,1,0]) a H K) (gCode Try.prog call k (fAt Try.f10 [1,1,0,0,1,1,1,1]) a H K) := at_cond (by kernel_rfl)
theorem n10_23 : gCode Try.prog call k (fAt Try.f10 [1,1,0,0,1,1,1,0]) a H K = gCode Try.prog call k (fAt Try.f10 [1,1,0,0,1,1,1,0,0]) a H (hSeq (gCode Try.prog call k (fAt Try.f10 [1,1,0,0,1,1,1,0,1])) K) := at_seq (by kernel_rfl)
theorem n10_24 : gCode Try.prog call k (fAt Try.f10 [1,1,0,0,1,1,1,0,0]) a H K = gOps Try.prog 0 call (opsAt (fAt Try.f10 [1,1,0,0,1,1,1,0,0])) ((opsAt (fAt Try.f10 [1,1,0,0,1,1,1,0,0])).drop 0) a H (K .normal) := at_region (by kernel_rfl)
theorem n10_25 : gCode Try.prog call k (fAt Try.f10 [1,1,0,0,1,1,1,0,1]) a H K = K .ret a H := at_ret (by kernel_rfl)
theorem n10_26 : gCode Try.prog call k (fAt Try.f10 [1,1,0,0,1,1,1,1]) a H K = K .normal a H := at_skip (by kernel_rfl)
theorem n10_27 : gCode Try.prog call k (fAt Try.f10 [1,1,1]) a H K = gCode Try.prog call k (fAt Try.f10 [1,1,1,0]) a H (hSeq (gCode Try.prog call k (fAt Try.f10 [1,1,1,1])) K) := at_seq (by kernel_rfl)
theorem n10_28 : gCode Try.prog call k (fAt Try.f10 [1,1,1,0]) a H K = gOps Try.prog 0 call (opsAt (fAt Try.f10 [1,1,1,0])) ((opsAt (fAt Try.f10 [1,1,1,0])).drop 0) a H (K .normal) := at_region (by kernel_rfl)
theorem n10_29 : gCode Try.prog call k (fAt Try.f10 [1,1,1,1]) a H K = gCode Try.prog call k (fAt Try.f10 [1,1,1,1,0]) a H (hSeq (gCode Try.prog call k (fAt Try.f10 [1,1,1,1,1])) K) := at_seq (by kernel_rfl)
theorem n10_30 : gCode Try.prog call k (fAt Try.f10 [1,1,1,1,0]) a H K = gCode Try.prog call k (fAt Try.f10 [1,1,1,1,0,0]) a H (hSeq (gCode Try.prog call k (fAt Try.f10 [1,1,1,1,0,1])) K) := at_seq (by kernel_rfl)
theorem n10_31 : gCode Try.prog call k (fAt Try.f10 [1,1,1,1,0,0]) a H K = gOps Try.prog 0 call (opsAt (fAt Try.f10 [1,1,1,1,0,0])) ((opsAt (fAt Try.f10 [1,1,1,1,0,0])).drop 0) a H (K .normal) := at_region (by kernel_rfl)
theorem n10_32 : gCode Try.prog call k (fAt Try.f10 [1,1,1,1,0,1]) a H K = onBool (asB (GA.eval a (.tmp 36))) (gCode Try.prog call k (fAt Try.f10 [1,1,1,1,0,1,0]) a H K) (gCode Try.prog call k (fAt Try.f10 [1,1,1,1,0,1,1]) a H K) := at_cond (by kernel_rfl)
theorem n10_33 : gCode Try.prog call k (fAt Try.f10 [1,1,1,1,0,1,0]) a H K = gCode Try.prog call k (fAt Try.f10 [1,1,1,1,0,1,0,0]) a H (hSeq (gCode Try.prog call k (fAt Try.f10 [1,1,1,1,0,1,0,1])) K) := at_seq (by kernel_rfl)
theorem n10_34 : gCode Try.prog call k (fAt Try.f10 [1,1,1,1,0,1,1]) a H K = K .normal a H := at_skip (by kernel_rfl)
theorem n10_35 : gCode Try.prog call k (fAt Try.f10 [1,1,1,1,1]) a H K = gCode Try.prog call k (fAt Try.f10 [1,1,1,1,1,0]) a H (hSeq (gCode Try.prog call k (fAt Try.f10 [1,1,1,1,1,1])) K) := at_seq (by kernel_rfl)
theorem n10_36 : gCode Try.prog call k (fAt Try.f10 [1,1,1,1,0,1,0,0]) a H K = gOps Try.prog 0 call (opsAt (fAt Try.f10 [1,1,1,1,0,1,0,0])) ((opsAt (fAt Try.f10 [1,1,1,1,0,1,0,0])).drop 0) a H (K .normal) := at_region (by kernel_rfl)
theorem n10_37 : gCode Try.prog call k (fAt Try.f10 [1,1,1,1,0,1,0,1]) a H K = K .ret a H := at_ret (by kernel_rfl)
theorem n10_38 : gCode Try.prog call k (fAt Try.f10 [1,1,1,1,1,0]) a H K = gOps Try.prog 0 call (opsAt (fAt Try.f10 [1,1,1,1,1,0])) ((opsAt (fAt Try.f10 [1,1,1,1,1,0])).drop 0) a H (K .normal) := at_region (by kernel_rfl)
theorem n10_39 : gCode Try.prog call k (fAt Try.f10 [1,1,1,1,1,1]) a H K = K .ret a H := at_ret (by kernel_rfl)
theorem s10_0 : gOps Try.prog 0 call (opsAt (fAt Try.f10 [0])) ((opsAt (fAt Try.f10 [0])).drop 0) (p0::p1::p2::undef::undef::undef::undef::undef::undef::undef::undef::undef::undef::undef::undef::undef::undef::undef::undef::undef::undef::undef::undef::undef::undef::undef::undef::undef::undef::undef::undef::undef::undef::undef::undef::undef::undef::undef::undef::[]) H K' =
  K' (p0::p1::p2::(.pointer (some ⟨H.n, 0, none⟩))::(.pointer (some ⟨(GH.push H (.row (Value.cells p0).toList 24 false)).n, 0, none⟩))::undef::(.pointer (some ⟨(GH.push (GH.push H (.row (Value.cells p0).toList 24 false)) (.row (Value.cells p1).toList 35 false)).n, 0, none⟩))::(.int .i64 0)::undef::undef::undef::undef::undef::undef::undef::undef::undef::undef::undef::undef::undef::undef::undef::undef::undef::undef::undef::undef::undef::undef::undef::undef::undef::undef::undef::undef::undef::undef::undef::[]) (GH.push (GH.push (GH.push H (.row (Value.cells p0).toList 24 false)) (.row (Value.cells p1).toList 35 false)) (.row [(.slice none 0 0), (.slice none 0 0)] 24 false)) := by kernel_rfl
theorem s10_1 : gOps Try.prog 0 call (opsAt (fAt Try.f10 [1,0,0])) ((opsAt (fAt Try.f10 [1,0,0])).drop 0) (p0::p1::p2::(.pointer (some ⟨H.n, 0, none⟩))::(.pointer (some ⟨(GH.push H (.row (Value.cells p0).toList 24 false)).n, 0, none⟩))::undef::(.pointer (some ⟨(GH.push (GH.push H (.row (Value.cells p0).toList 24 false)) (.row (Value.cells p1).toList 35 false)).n, 0, none⟩))::(.int .i64 0)::undef::undef::undef::undef::undef::undef::undef::undef::undef::undef::undef::undef::undef::undef::undef::undef::undef::undef::undef::undef::undef::undef::undef::undef::undef::undef::undef::undef::undef::undef::undef::[]) (GH.push (GH.push (GH.push H (.row (Value.cells p0).toList 24 false)) (.row (Value.cells p1).toList 35 false)) (.row [(.slice none 0 0), (.slice none 0 0)] 24 false)) K' =
  onV (gLoad Try.prog 24 (.pointer (some ⟨H.n, 0, none⟩)) (GH.push (GH.push (GH.push H (.row (Value.cells p0).toList 24 false)) (.row (Value.cells p1).toList 35 false)) (.row [(.slice none 0 0), (.slice none 0 0)] 24 false))) fun v1 =>
  onCall 0 call (.func (.func 9) #[] #[]) [v1] (GH.push (GH.push (GH.push H (.row (Value.cells p0).toList 24 false)) (.row (Value.cells p1).toList 35 false)) (.row [(.slice none 0 0), (.slice none 0 0)] 24 false)) fun v2 H3 =>
  K' (p0::p1::p2::(.pointer (some ⟨H.n, 0, none⟩))::(.pointer (some ⟨(GH.push H (.row (Value.cells p0).toList 24 false)).n, 0, none⟩))::undef::(.pointer (some ⟨(GH.push (GH.push H (.row (Value.cells p0).toList 24 false)) (.row (Value.cells p1).toList 35 false)).n, 0, none⟩))::(.int .i64 0)::v2::undef::v1::v2::undef::undef::undef::undef::undef::undef::undef::undef::undef::undef::undef::undef::undef::undef::undef::undef::undef::undef::undef::undef::undef::undef::undef::undef::undef::undef::undef::[]) H3 := by kernel_rfl
theorem s10_2 : gOps Try.prog 0 call (opsAt (fAt Try.f10 [1,0,1,0])) ((opsAt (fAt Try.f10 [1,0,1,0])).drop 0) (p0::p1::p2::(.pointer (some ⟨H.n, 0, none⟩))::(.pointer (some ⟨(GH.push H (.row (Value.cells p0).toList 24 false)).n, 0, none⟩))::undef::(.pointer (some ⟨(GH.push (GH.push H (.row (Value.cells p0).toList 24 false)) (.row (Value.cells p1).toList 35 false)).n, 0, none⟩))::(.int .i64 0)::v2::undef::v1::v2::undef::undef::undef::undef::undef::undef::undef::undef::undef::undef::undef::undef::undef::undef::undef::undef::undef::undef::undef::undef::undef::undef::undef::undef::undef::undef::undef::[]) H3 K' =
  onV ((oBin Try.prog .neq 27 v2 (.int .i64 0)).filter closed) fun v4 =>
  K' (p0::p1::p2::(.pointer (some ⟨H.n, 0, none⟩))::(.pointer (some ⟨(GH.push H (.row (Value.cells p0).toList 24 false)).n, 0, none⟩))::undef::(.pointer (some ⟨(GH.push (GH.push H (.row (Value.cells p0).toList 24 false)) (.row (Value.cells p1).toList 35 false)).n, 0, none⟩))::(.int .i64 0)::v2::undef::v1::v2::v2::v4::undef::undef::undef::undef::undef::undef::undef::undef::undef::undef::undef::undef::undef::undef::undef::undef::undef::undef::undef::undef::undef::undef::undef::undef::undef::[]) H3 := by kernel_rfl
theorem s10_3 : gOps Try.prog 0 call (opsAt (fAt Try.f10 [1,0,1,1,0,0])) ((opsAt (fAt Try.f10 [1,0,1,1,0,0])).drop 0) (p0::p1::p2::(.pointer (some ⟨H.n, 0, none⟩))::(.pointer (some ⟨(GH.push H (.row (Value.cells p0).toList 24 false)).n, 0, none⟩))::undef::(.pointer (some ⟨(GH.push (GH.push H (.row (Value.cells p0).toList 24 false)) (.row (Value.cells p1).toList 35 false)).n, 0, none⟩))::(.int .i64 0)::v2::undef::v1::v2::v2::v4::undef::undef::undef::undef::undef::undef::undef::undef::undef::undef::undef::undef::undef::undef::undef::undef::undef::undef::undef::undef::undef::undef::undef::undef::undef::[]) H3 K' =
  onH (gStore Try.prog 24 (.pointer (some ⟨(GH.push (GH.push H (.row (Value.cells p0).toList 24 false)) (.row (Value.cells p1).toList 35 false)).n, 0, none⟩)) (.agg #[(.slice none 0 0), (.slice none 0 0)]) H3) fun H5 =>
  K' (p0::p1::p2::(.pointer (some ⟨H.n, 0, none⟩))::(.pointer (some ⟨(GH.push H (.row (Value.cells p0).toList 24 false)).n, 0, none⟩))::undef::(.pointer (some ⟨(GH.push (GH.push H (.row (Value.cells p0).toList 24 false)) (.row (Value.cells p1).toList 35 false)).n, 0, none⟩))::v2::v2::undef::v1::v2::v2::v4::(.agg #[(.slice none 0 0), (.slice none 0 0)])::v2::undef::undef::undef::undef::undef::undef::undef::undef::undef::undef::undef::undef::undef::undef::undef::undef::undef::undef::undef::undef::undef::undef::undef::[]) H5 := by kernel_rfl
theorem s10_4 : gOps Try.prog 0 call (opsAt (fAt Try.f10 [1,1,0,0,0])) (((opsAt (fAt Try.f10 [1,1,0,0,0])).drop 0).take 4) (x0::x1::x2::x3::x4::x5::x6::x7::x8::x9::x10::x11::x12::x13::x14::x15::x16::x17::x18::x19::x20::x21::x22::x23::x24::x25::x26::x27::x28::x29::x30::x31::x32::x33::x34::x35::x36::x37::x38::[]) H K' =
  onV (gLoad Try.prog 35 x4 H) fun v1 =>
  onCall 0 call (.func (.func 50) #[] #[]) [v1] H fun v2 H3 =>
  onV ((oBin Try.prog .neq 27 v2 (.int .i64 0)).filter closed) fun v4 =>
  K' (x0::x1::x2::x3::x4::x5::x6::x7::x8::x9::x10::x11::x12::x13::x14::x15::x16::v1::v2::v4::v4::x21::x22::x23::x24::x25::x26::x27::x28::x29::x30::x31::x32::x33::x34::x35::x36::x37::x38::[]) H3 := by kernel_rfl
theorem s10_5 : gOps Try.prog 0 call (opsAt (fAt Try.f10 [1,1,0,0,0])) ((opsAt (fAt Try.f10 [1,1,0,0,0])).drop 4) (x0::x1::x2::x3::x4::x5::x6::x7::x8::x9::x10::x11::x12::x13::x14::x15::x16::x17::x18::x19::(.bool true)::x21::x22::x23::x24::x25::x26::x27::x28::x29::x30::x31::x32::x33::x34::x35::x36::x37::x38::[]) H K' =
  K' (x0::x1::x2::x3::x4::x5::x6::x7::x8::x9::x10::x11::x12::x13::x14::x15::(.bool true)::x17::x18::x19::(.bool true)::undef::undef::(.bool true)::x24::x25::x26::x27::x28::x29::x30::x31::x32::x33::x34::x35::x36::x37::x38::[]) H := by kernel_rfl
theorem s10_6 : gOps Try.prog 0 call (opsAt (fAt Try.f10 [1,1,0,0,1,0,0])) ((opsAt (fAt Try.f10 [1,1,0,0,1,0,0])).drop 0) (x0::x1::x2::x3::x4::x5::x6::x7::x8::x9::x10::x11::x12::x13::x14::x15::(.bool true)::x17::x18::x19::(.bool true)::undef::undef::(.bool true)::x24::x25::x26::x27::x28::x29::x30::x31::x32::x33::x34::x35::x36::x37::x38::[]) H K' =
  onH (gStore Try.prog 24 x6 (.agg #[(.slice none 0 0), (.slice none 0 0)]) H) fun H1 =>
  K' (x0::x1::x2::x3::x4::x5::x6::(.int .i64 1)::x8::x9::x10::x11::x12::x13::x14::x15::(.bool true)::x17::x18::x19::(.bool true)::undef::undef::(.bool true)::(.agg #[(.slice none 0 0), (.slice none 0 0)])::x25::x26::x27::x28::x29::x30::x31::x32::x33::x34::x35::x36::x37::x38::[]) H1 := by kernel_rfl
theorem s10_7 : gOps Try.prog 0 call (opsAt (fAt Try.f10 [1,1,0,0,0])) ((opsAt (fAt Try.f10 [1,1,0,0,0])).drop 4) (x0::x1::x2::x3::x4::x5::x6::x7::x8::x9::x10::x11::x12::x13::x14::x15::x16::x17::x18::x19::(.bool false)::x21::x22::x23::x24::x25::x26::x27::x28::x29::x30::x31::x32::x33::x34::x35::x36::x37::x38::[]) H K' =
  onCall 0 call (.func (.func 46) #[] #[]) [x2, (.func (.func 51) #[] #[])] H fun v1 H2 =>
  K' (x0::x1::x2::x3::x4::x5::x6::x7::x8::x9::x10::x11::x12::x13::x14::x15::v1::x17::x18::x19::(.bool false)::x2::v1::v1::x24::x25::x26::x27::x28::x29::x30::x31::x32::x33::x34::x35::x36::x37::x38::[]) H2 := by kernel_rfl
theorem s10_8 : gOps Try.prog 0 call (opsAt (fAt Try.f10 [1,1,0,0,1,0,0])) ((opsAt (fAt Try.f10 [1,1,0,0,1,0,0])).drop 0) (x0::x1::x2::x3::x4::x5::x6::x7::x8::x9::x10::x11::x12::x13::x14::x15::v1::x17::x18::x19::(.bool false)::x2::v1::v1::x24::x25::x26::x27::x28::x29::x30::x31::x32::x33::x34::x35::x36::x37::x38::[]) H2 K' =
  onH (gStore Try.prog 24 x6 (.agg #[(.slice none 0 0), (.slice none 0 0)]) H2) fun H3 =>
  K' (x0::x1::x2::x3::x4::x5::x6::(.int .i64 1)::x8::x9::x10::x11::x12::x13::x14::x15::v1::x17::x18::x19::(.bool false)::x2::v1::v1::(.agg #[(.slice none 0 0), (.slice none 0 0)])::x25::x26::x27::x28::x29::x30::x31::x32::x33::x34::x35::x36::x37::x38::[]) H3 := by kernel_rfl
theorem s10_9 : gOps Try.prog 0 call (opsAt (fAt Try.f10 [1,1,0,0,1,1,0])) ((opsAt (fAt Try.f10 [1,1,0,0,1,1,0])).drop 0) (x0::x1::x2::x3::x4::x5::x6::x7::x8::x9::x10::x11::x12::x13::x14::x15::v1::x17::x18::x19::(.bool false)::x2::v1::v1::x24::x25::x26::x27::x28::x29::x30::x31::x32::x33::x34::x35::x36::x37::x38::[]) H2 K' =
  onV (oLen Try.prog 26 x2) fun v4 =>
  onV ((oBin Try.prog .gtr 3 v4 (.int .i64 4)).filter closed) fun v5 =>
  K' (x0::x1::x2::x3::x4::x5::x6::x7::x8::x9::x10::x11::x12::x13::x14::x15::v1::x17::x18::x19::(.bool false)::x2::v1::v1::x24::v5::x2::v4::v5::x29::x30::x31::x32::x33::x34::x35::x36::x37::x38::[]) H2 := by kernel_rfl
theorem s10_10 : gOps Try.prog 0 call (opsAt (fAt Try.f10 [1,1,0,0,1,1,1,0,0])) ((opsAt (fAt Try.f10 [1,1,0,0,1,1,1,0,0])).drop 0) (x0::x1::x2::x3::x4::x5::x6::x7::x8::x9::x10::x11::x12::x13::x14::x15::v1::x17::x18::x19::(.bool false)::x2::v1::v1::x24::v5::x2::v4::v5::x29::x30::x31::x32::x33::x34::x35::x36::x37::x38::[]) H2 K' =
  onH (gStore Try.prog 24 x6 (.agg #[(.slice none 0 0), (.slice none 0 0)]) H2) fun H6 =>
  K' (x0::x1::x2::x3::x4::x5::x6::(.int .i64 9)::x8::x9::x10::x11::x12::x13::x14::x15::v1::x17::x18::x19::(.bool false)::x2::v1::v1::x24::v5::x2::v4::v5::(.agg #[(.slice none 0 0), (.slice none 0 0)])::x30::x31::x32::x33::x34::x35::x36::x37::x38::[]) H6 := by kernel_rfl
theorem s10_11 : gOps Try.prog 0 call (opsAt (fAt Try.f10 [1,1,1,0])) ((opsAt (fAt Try.f10 [1,1,1,0])).drop 0) (x0::x1::x2::x3::x4::x5::x6::x7::x8::x9::x10::x11::x12::x13::x14::x15::v1::x17::x18::x19::(.bool false)::x2::v1::v1::x24::v5::x2::v4::v5::x29::x30::x31::x32::x33::x34::x35::x36::x37::x38::[]) H2 K' =
  onV (gLoad Try.prog 24 x3 H2) fun v7 =>
  onV (gLoad Try.prog 35 x4 H2) fun v8 =>
  onCall 0 call (.func (.func 52) #[] #[]) [v7, v8, x2] H2 fun v9 H10 =>
  onH (gStore Try.prog 24 (.pointer (some ⟨H10.n, 0, none⟩)) v9 (GH.push H10 (.row [(.slice none 0 0), (.slice none 0 0)] 24 false))) fun H11 =>
  K' (x0::x1::x2::x3::x4::x5::x6::x7::x8::(.pointer (some ⟨H10.n, 0, none⟩))::x10::x11::x12::x13::x14::x15::v1::x17::x18::x19::(.bool false)::x2::v1::v1::x24::v5::x2::v4::v5::x29::v7::v8::x2::v9::x34::x35::x36::x37::x38::[]) H11 := by kernel_rfl
theorem s10_12 : gOps Try.prog 0 call (opsAt (fAt Try.f10 [1,1,1,1,0,0])) ((opsAt (fAt Try.f10 [1,1,1,1,0,0])).drop 0) (x0::x1::x2::x3::x4::x5::x6::x7::x8::(.pointer (some ⟨H10.n, 0, none⟩))::x10::x11::x12::x13::x14::x15::v1::x17::x18::x19::(.bool false)::x2::v1::v1::x24::v5::x2::v4::v5::x29::v7::v8::x2::v9::x34::x35::x36::x37::x38::[]) H11 K' =
  onV (gLoad Try.prog 24 (.pointer (some ⟨H10.n, 0, none⟩)) H11) fun v12 =>
  onCall 0 call (.func (.func 45) #[] #[]) [v12] H11 fun v13 H14 =>
  onCall 0 call (.func (.func 49) #[] #[]) [v13] H14 fun v15 H16 =>
  K' (x0::x1::x2::x3::x4::x5::x6::x7::x8::(.pointer (some ⟨H10.n, 0, none⟩))::x10::x11::x12::x13::x14::x15::v1::x17::x18::x19::(.bool false)::x2::v1::v1::x24::v5::x2::v4::v5::x29::v7::v8::x2::v9::v12::v13::v15::x37::x38::[]) H16 := by kernel_rfl
theorem s10_13 : gOps Try.prog 0 call (opsAt (fAt Try.f10 [1,1,1,1,0,1,0,0])) ((opsAt (fAt Try.f10 [1,1,1,1,0,1,0,0])).drop 0) (x0::x1::x2::x3::x4::x5::x6::x7::x8::x9::x10::x11::x12::x13::x14::x15::x16::x17::x18::x19::x20::x21::x22::x23::x24::x25::x26::x27::x28::x29::x30::x31::x32::x33::x34::x35::x36::x37::x38::[]) H K' =
  onH (gStore Try.prog 24 x6 (.agg #[(.slice none 0 0), (.slice none 0 0)]) H) fun H1 =>
  K' (x0::x1::x2::x3::x4::x5::x6::(.int .i64 8)::x8::x9::x10::x11::x12::x13::x14::x15::x16::x17::x18::x19::x20::x21::x22::x23::x24::x25::x26::x27::x28::x29::x30::x31::x32::x33::x34::x35::x36::(.agg #[(.slice none 0 0), (.slice none 0 0)])::x38::[]) H1 := by kernel_rfl
theorem s10_14 : gOps Try.prog 0 call (opsAt (fAt Try.f10 [1,1,1,1,1,0])) ((opsAt (fAt Try.f10 [1,1,1,1,1,0])).drop 0) (x0::x1::x2::x3::x4::x5::x6::x7::x8::x9::x10::x11::x12::x13::x14::x15::x16::x17::x18::x19::x20::x21::x22::x23::x24::x25::x26::x27::x28::x29::x30::x31::x32::x33::x34::x35::x36::x37::x38::[]) H K' =
  onV (gLoad Try.prog 24 x9 H) fun v1 =>
  onH (gStore Try.prog 24 x6 v1 H) fun H2 =>
  K' (x0::x1::x2::x3::x4::x5::x6::(.int .i64 0)::x8::x9::x10::x11::x12::x13::x14::x15::x16::x17::x18::x19::x20::x21::x22::x23::x24::x25::x26::x27::x28::x29::x30::x31::x32::x33::x34::x35::x36::x37::v1::[]) H2 := by kernel_rfl
noncomputable def f10_r10 (call : Handle) (k : Nat) (x6 : Value) (H : GH) : M (Value × GH) :=
  onH (gStore Try.prog 24 x6 (.agg #[(.slice none 0 0), (.slice none 0 0)]) H) fun H1 =>
  onV (gResL Try.prog H1 [(x6, some 24), ((.int .i64 8), none)]) fun v => some [(v, H1)]
theorem f10_r10_eq (call : Handle) (k : Nat) : gCode Try.prog call k (fAt Try.f10 [1,1,1,1,0,1,0,0]) (x0::x1::x2::x3::x4::x5::x6::x7::x8::x9::x10::x11::x12::x13::x14::x15::x16::x17::x18::x19::x20::x21::x22::x23::x24::x25::x26::x27::x28::x29::x30::x31::x32::x33::x34::x35::x36::x37::x38::[]) H (hSeq (gCode Try.prog call k (fAt Try.f10 [1,1,1,1,0,1,0,1])) (hSeq (gCode Try.prog call k (fAt Try.f10 [1,1,1,1,1])) (hFin Try.prog Try.f10))) = f10_r10 call k x6 H := by
  unfold f10_r10
  rw [n10_36]
  rw [s10_13]
  refine onH_c fun H1 => ?_
  rw [hSeq_n]
  rw [n10_37]
  rw [hSeq_r]
  exact fin10_ret
noncomputable def f10_r11 (call : Handle) (k : Nat) (x6 x9 : Value) (H : GH) : M (Value × GH) :=
  onV (gLoad Try.prog 24 x9 H) fun v1 =>
  onH (gStore Try.prog 24 x6 v1 H) fun H2 =>
  onV (gResL Try.prog H2 [(x6, some 24), ((.int .i64 0), none)]) fun v => some [(v, H2)]
theorem f10_r11_eq (call : Handle) (k : Nat) : gCode Try.prog call k (fAt Try.f10 [1,1,1,1,1,0]) (x0::x1::x2::x3::x4::x5::x6::x7::x8::x9::x10::x11::x12::x13::x14::x15::x16::x17::x18::x19::x20::x21::x22::x23::x24::x25::x26::x27::x28::x29::x30::x31::x32::x33::x34::x35::x36::x37::x38::[]) H (hSeq (gCode Try.prog call k (fAt Try.f10 [1,1,1,1,1,1])) (hFin Try.prog Try.f10)) = f10_r11 call k x6 x9 H := by
  unfold f10_r11
  rw [n10_38]
  rw [s10_14]
  refine onV_c fun v1 => ?_
  refine onH_c fun H2 => ?_
  rw [hSeq_n]
  rw [n10_39]
  exact fin10_ret
noncomputable def f10_g4_4 (call : Handle) (k : Nat) (x20 : Value) (x2 x3 x4 x6 : Value) (H : GH) : M (Value × GH) :=
 onBool (asB x20)
  (onH (gStore Try.prog 24 x6 (.agg #[(.slice none 0 0), (.slice none 0 0)]) H) fun H1 =>
  onV (gResL Try.prog H1 [(x6, some 24), ((.int .i64 1), none)]) fun v => some [(v, H1)])
  (onCall 0 call (.func (.func 46) #[] #[]) [x2, (.func (.func 51) #[] #[])] H fun v1 H2 =>
  onBool (asB v1)
  (onH (gStore Try.prog 24 x6 (.agg #[(.slice none 0 0), (.slice none 0 0)]) H2) fun H3 =>
  onV (gResL Try.prog H3 [(x6, some 24), ((.int .i64 1), none)]) fun v => some [(v, H3)])
  (onV (oLen Try.prog 26 x2) fun v4 =>
  onV ((oBin Try.prog .gtr 3 v4 (.int .i64 4)).filter closed) fun v5 =>
  onBool (asB v5)
  (onH (gStore Try.prog 24 x6 (.agg #[(.slice none 0 0), (.slice none 0 0)]) H2) fun H6 =>
  onV (gResL Try.prog H6 [(x6, some 24), ((.int .i64 9), none)]) fun v => some [(v, H6)])
  (onV (gLoad Try.prog 24 x3 H2) fun v7 =>
  onV (gLoad Try.prog 35 x4 H2) fun v8 =>
  onCall 0 call (.func (.func 52) #[] #[]) [v7, v8, x2] H2 fun v9 H10 =>
  onH (gStore Try.prog 24 (.pointer (some ⟨H10.n, 0, none⟩)) v9 (GH.push H10 (.row [(.slice none 0 0), (.slice none 0 0)] 24 false))) fun H11 =>
  onV (gLoad Try.prog 24 (.pointer (some ⟨H10.n, 0, none⟩)) H11) fun v12 =>
  onCall 0 call (.func (.func 45) #[] #[]) [v12] H11 fun v13 H14 =>
  onCall 0 call (.func (.func 49) #[] #[]) [v13] H14 fun v15 H16 =>
  onBool (asB v15)
  ((f10_r10 call k x6 H16))
  ((f10_r11 call k x6 (.pointer (some ⟨H10.n, 0, none⟩)) H16)))))
theorem f10_g4_4_true (call : Handle) (k : Nat) : gOps Try.prog 0 call (opsAt (fAt Try.f10 [1,1,0,0,0])) ((opsAt (fAt Try.f10 [1,1,0,0,0])).drop 4) (x0::x1::x2::x3::x4::x5::x6::x7::x8::x9::x10::x11::x12::x13::x14::x15::x16::x17::x18::x19::(.bool true)::x21::x22::x23::x24::x25::x26::x27::x28::x29::x30::x31::x32::x33::x34::x35::x36::x37::x38::[]) H ((hSeq (gCode Try.prog call k (fAt Try.f10 [1,1,0,0,1])) (hBlock 0 (hSeq (gCode Try.prog call k (fAt Try.f10 [1,1,1])) (hFin Try.prog Try.f10)))) .normal) =
  onH (gStore Try.prog 24 x6 (.agg #[(.slice none 0 0), (.slice none 0 0)]) H) fun H1 =>
  onV (gResL Try.prog H1 [(x6, some 24), ((.int .i64 1), none)]) fun v => some [(v, H1)] := by
  rw [s10_5]
  rw [hSeq_n]
  rw [n10_16]
  refine (onBool_tt rfl).trans ?_
  rw [n10_17]
  rw [n10_18]
  rw [s10_6]
  refine onH_c fun H1 => ?_
  rw [hSeq_n]
  rw [n10_19]
  rw [hBlock_r, hSeq_r]
  exact fin10_ret
theorem f10_g4_4_false (call : Handle) (k : Nat) : gOps Try.prog 0 call (opsAt (fAt Try.f10 [1,1,0,0,0])) ((opsAt (fAt Try.f10 [1,1,0,0,0])).drop 4) (x0::x1::x2::x3::x4::x5::x6::x7::x8::x9::x10::x11::x12::x13::x14::x15::x16::x17::x18::x19::(.bool false)::x21::x22::x23::x24::x25::x26::x27::x28::x29::x30::x31::x32::x33::x34::x35::x36::x37::x38::[]) H ((hSeq (gCode Try.prog call k (fAt Try.f10 [1,1,0,0,1])) (hBlock 0 (hSeq (gCode Try.prog call k (fAt Try.f10 [1,1,1])) (hFin Try.prog Try.f10)))) .normal) =
  onCall 0 call (.func (.func 46) #[] #[]) [x2, (.func (.func 51) #[] #[])] H fun v1 H2 =>
  onBool (asB v1)
  (onH (gStore Try.prog 24 x6 (.agg #[(.slice none 0 0), (.slice none 0 0)]) H2) fun H3 =>
  onV (gResL Try.prog H3 [(x6, some 24), ((.int .i64 1), none)]) fun v => some [(v, H3)])
  (onV (oLen Try.prog 26 x2) fun v4 =>
  onV ((oBin Try.prog .gtr 3 v4 (.int .i64 4)).filter closed) fun v5 =>
  onBool (asB v5)
  (onH (gStore Try.prog 24 x6 (.agg #[(.slice none 0 0), (.slice none 0 0)]) H2) fun H6 =>
  onV (gResL Try.prog H6 [(x6, some 24), ((.int .i64 9), none)]) fun v => some [(v, H6)])
  (onV (gLoad Try.prog 24 x3 H2) fun v7 =>
  onV (gLoad Try.prog 35 x4 H2) fun v8 =>
  onCall 0 call (.func (.func 52) #[] #[]) [v7, v8, x2] H2 fun v9 H10 =>
  onH (gStore Try.prog 24 (.pointer (some ⟨H10.n, 0, none⟩)) v9 (GH.push H10 (.row [(.slice none 0 0), (.slice none 0 0)] 24 false))) fun H11 =>
  onV (gLoad Try.prog 24 (.pointer (some ⟨H10.n, 0, none⟩)) H11) fun v12 =>
  onCall 0 call (.func (.func 45) #[] #[]) [v12] H11 fun v13 H14 =>
  onCall 0 call (.func (.func 49) #[] #[]) [v13] H14 fun v15 H16 =>
  onBool (asB v15)
  ((f10_r10 call k x6 H16))
  ((f10_r11 call k x6 (.pointer (some ⟨H10.n, 0, none⟩)) H16)))) := by
  rw [s10_7]
  refine onCall_c fun v1 H2 => ?_
  rw [hSeq_n]
  rw [n10_16]
  refine onBool_cc rfl ?_ ?_
  · rw [n10_17]
    rw [n10_18]
    rw [s10_8]
    refine onH_c fun H3 => ?_
    rw [hSeq_n]
    rw [n10_19]
    rw [hBlock_r, hSeq_r]
    exact fin10_ret
  · rw [n10_20]
    rw [n10_21]
    rw [s10_9]
    refine onV_c fun v4 => ?_
    refine onV_c fun v5 => ?_
    rw [hSeq_n]
    rw [n10_22]
    refine onBool_cc rfl ?_ ?_
    · rw [n10_23]
      rw [n10_24]
      rw [s10_10]
      refine onH_c fun H6 => ?_
      rw [hSeq_n]
      rw [n10_25]
      rw [hBlock_r, hSeq_r]
      exact fin10_ret
    · rw [n10_26]
      rw [hBlock_n]
      rw [hSeq_n]
      rw [n10_27]
      rw [n10_28]
      rw [s10_11]
      refine onV_c fun v7 => ?_
      refine onV_c fun v8 => ?_
      refine onCall_c fun v9 H10 => ?_
      refine onH_c fun H11 => ?_
      rw [hSeq_n]
      rw [n10_29]
      rw [n10_30]
      rw [n10_31]
      rw [s10_12]
      refine onV_c fun v12 => ?_
      refine onCall_c fun v13 H14 => ?_
      refine onCall_c fun v15 H16 => ?_
      rw [hSeq_n]
      rw [n10_32]
      refine onBool_cc rfl ?_ ?_
      · rw [n10_33]
        exact f10_r10_eq call k
      · rw [n10_34]
        rw [hSeq_n]
        rw [n10_35]
        exact f10_r11_eq call k
theorem f10_g4_4_eq (call : Handle) (k : Nat) : gOps Try.prog 0 call (opsAt (fAt Try.f10 [1,1,0,0,0])) ((opsAt (fAt Try.f10 [1,1,0,0,0])).drop 4) (x0::x1::x2::x3::x4::x5::x6::x7::x8::x9::x10::x11::x12::x13::x14::x15::x16::x17::x18::x19::x20::x21::x22::x23::x24::x25::x26::x27::x28::x29::x30::x31::x32::x33::x34::x35::x36::x37::x38::[]) H ((hSeq (gCode Try.prog call k (fAt Try.f10 [1,1,0,0,1])) (hBlock 0 (hSeq (gCode Try.prog call k (fAt Try.f10 [1,1,1])) (hFin Try.prog Try.f10)))) .normal) =
  f10_g4_4 call k x20 x2 x3 x4 x6 H := by
  cases x20 with
  | bool b => cases b with
    | true => exact f10_g4_4_true call k
    | false => exact f10_g4_4_false call k
  | _ => kernel_rfl
noncomputable def f10_r4 (call : Handle) (k : Nat) (x2 x3 x4 x6 : Value) (H : GH) : M (Value × GH) :=
  onV (gLoad Try.prog 35 x4 H) fun v1 =>
  onCall 0 call (.func (.func 50) #[] #[]) [v1] H fun v2 H3 =>
  onV ((oBin Try.prog .neq 27 v2 (.int .i64 0)).filter closed) fun v4 =>
  (f10_g4_4 call k v4 x2 x3 x4 x6 H3)
theorem f10_r4_eq (call : Handle) (k : Nat) : gCode Try.prog call k (fAt Try.f10 [1,1,0,0,0]) (x0::x1::x2::x3::x4::x5::x6::x7::x8::x9::x10::x11::x12::x13::x14::x15::x16::x17::x18::x19::x20::x21::x22::x23::x24::x25::x26::x27::x28::x29::x30::x31::x32::x33::x34::x35::x36::x37::x38::[]) H (hSeq (gCode Try.prog call k (fAt Try.f10 [1,1,0,0,1])) (hBlock 0 (hSeq (gCode Try.prog call k (fAt Try.f10 [1,1,1])) (hFin Try.prog Try.f10)))) = f10_r4 call k x2 x3 x4 x6 H := by
  unfold f10_r4
  rw [n10_15]
  rw [gOps_split 0 4, s10_4]
  refine onV_c fun v1 => ?_
  refine onCall_c fun v2 H3 => ?_
  refine onV_c fun v4 => ?_
  exact f10_g4_4_eq call k
noncomputable def f10_sh (call : Handle) (k : Nat) (p0 p1 p2 : Value) (H : GH) : M (Value × GH) :=
  onV (gLoad Try.prog 24 (.pointer (some ⟨H.n, 0, none⟩)) (GH.push (GH.push (GH.push H (.row (Value.cells p0).toList 24 false)) (.row (Value.cells p1).toList 35 false)) (.row [(.slice none 0 0), (.slice none 0 0)] 24 false))) fun v1 =>
  onCall 0 call (.func (.func 9) #[] #[]) [v1] (GH.push (GH.push (GH.push H (.row (Value.cells p0).toList 24 false)) (.row (Value.cells p1).toList 35 false)) (.row [(.slice none 0 0), (.slice none 0 0)] 24 false)) fun v2 H3 =>
  onV ((oBin Try.prog .neq 27 v2 (.int .i64 0)).filter closed) fun v4 =>
  onBool (asB v4)
  (onH (gStore Try.prog 24 (.pointer (some ⟨(GH.push (GH.push H (.row (Value.cells p0).toList 24 false)) (.row (Value.cells p1).toList 35 false)).n, 0, none⟩)) (.agg #[(.slice none 0 0), (.slice none 0 0)]) H3) fun H5 =>
  onV (gResL Try.prog H5 [((.pointer (some ⟨(GH.push (GH.push H (.row (Value.cells p0).toList 24 false)) (.row (Value.cells p1).toList 35 false)).n, 0, none⟩)), some 24), (v2, none)]) fun v => some [(v, H5)])
  ((f10_r4 call k p2 (.pointer (some ⟨H.n, 0, none⟩)) (.pointer (some ⟨(GH.push H (.row (Value.cells p0).toList 24 false)).n, 0, none⟩)) (.pointer (some ⟨(GH.push (GH.push H (.row (Value.cells p0).toList 24 false)) (.row (Value.cells p1).toList 35 false)).n, 0, none⟩)) H3))
theorem f10_run (call : Handle) (k : Nat) (p0 p1 p2 : Value) (H : GH) : gCode Try.prog call k (fAt Try.f10 []) (p0::p1::p2::undef::undef::undef::undef::undef::undef::undef::undef::undef::undef::undef::undef::undef::undef::undef::undef::undef::undef::undef::undef::undef::undef::undef::undef::undef::undef::undef::undef::undef::undef::undef::undef::undef::undef::undef::undef::[]) H (hFin Try.prog Try.f10) = f10_sh call k p0 p1 p2 H := by
  unfold f10_sh
  rw [n10_0]
  rw [n10_1]
  rw [s10_0]
  rw [hSeq_n]
  rw [n10_2]
  rw [n10_3]
  rw [n10_4]
  rw [s10_1]
  refine onV_c fun v1 => ?_
  refine onCall_c fun v2 H3 => ?_
  rw [hSeq_n]
  rw [n10_5]
  rw [n10_6]
  rw [s10_2]
  refine onV_c fun v4 => ?_
  rw [hSeq_n]
  rw [n10_7]
  refine onBool_cc rfl ?_ ?_
  · rw [n10_8]
    rw [n10_9]
    rw [s10_3]
    refine onH_c fun H5 => ?_
    rw [hSeq_n]
    rw [n10_10]
    rw [hSeq_r]
    exact fin10_ret
  · rw [n10_11]
    rw [hSeq_n]
    rw [n10_12]
    rw [n10_13]
    rw [n10_14]
    exact f10_r4_eq call k
theorem f10_eq (call : Handle) (k : Nat) (p0 p1 p2 : Value) (H : GH) : gFunc Try.prog call k Try.f10 [p0, p1, p2] H = f10_sh call k p0 p1 p2 H :=
  Eq.trans (by kernel_rfl) (f10_run call k p0 p1 p2 H)
end
section
variable {β : Type} {call : Handle} {k : Nat} {a : GA} {K : Kont β} {K' : GA → GH → M β}
variable {x0 x1 x2 x3 x4 x5 x6 x7 x8 x9 x10 x11 x12 x13 x14 x15 x16 x17 x18 x19 x20 x21 x22 x23 x24 x25 x26 x27 x28 x29 x30 x31 x32 x33 x34 x35 x36 x37 x38 x39 x40 x41 x42 x43 x44 x45 x46 x47 x48 x49 x50 x51 x52 x53 x54 x55 x56 x57 x58 x59 x60 x61 x62 x63 x64 x65 x66 : Value}
variable {p0 p1 p2 : Value}
variable {v1 v2 v3 v4 v5 v6 v7 v9 v11 : Value}
variable {H H3 H8 H12 : GH}
theorem fin11_normal : hFin Try.prog Try.f11 .normal (x0::x1::x2::x3::x4::x5::x6::x7::x8::x9::x10::x11::x12::x13::x14::x15::x16::x17::x18::x19::x20::x21::x22::x23::x24::x25::x26::x27::x28::x29::x30::x31::x32::x33::x34::x35::x36::x37::x38::x39::x40::x41::x42::x43::x44::x45::x46::x47::x48::x49::x50::x51::x52::x53::x54::x55::x56::x57::x58::x59::x60::x61::x62::x63::x64::x65::x66::[]) H =
  onV (gResL Try.prog H [(x6, some 24), (x7, none)]) fun v => some [(v, H)] := by kernel_rfl
theorem fin11_ret : hFin Try.prog Try.f11 .ret (x0::x1::x2::x3::x4::x5::x6::x7::x8::x9::x10::x11::x12::x13::x14::x15::x16::x17::x18::x19::x20::x21::x22::x23::x24::x25::x26::x27::x28::x29::x30::x31::x32::x33::x34::x35::x36::x37::x38::x39::x40::x41::x42::x43::x44::x45::x46::x47::x48::x49::x50::x51::x52::x53::x54::x55::x56::x57::x58::x59::x60::x61::x62::x63::x64::x65::x66::[]) H =
  onV (gResL Try.prog H [(x6, some 24), (x7, none)]) fun v => some [(v, H)] := by kernel_rfl
theorem n11_0 : gCode Try.prog call k (fAt Try.f11 []) a H K = gCode Try.prog call k (fAt Try.f11 [0]) a H (hSeq (gCode Try.prog call k (fAt Try.f11 [1])) K) := at_seq (by kernel_rfl)
theorem n11_1 : gCode Try.prog call k (fAt Try.f11 [0]) a H K = gOps Try.prog 0 call (opsAt (fAt Try.f11 [0])) ((opsAt (fAt Try.f11 [0])).drop 0) a H (K .normal) := at_region (by kernel_rfl)
theorem n11_2 : gCode Try.prog call k (fAt Try.f11 [1]) a H K = gCode Try.prog call k (fAt Try.f11 [1,0]) a H (hSeq (gCode Try.prog call k (fAt Try.f11 [1,1])) K) := at_seq (by kernel_rfl)
theorem n11_3 : gCode Try.prog call k (fAt Try.f11 [1,0]) a H K = gCode Try.prog call k (fAt Try.f11 [1,0,0]) a H (hSeq (gCode Try.prog call k (fAt Try.f11 [1,0,1])) K) := at_seq (by kernel_rfl)
theorem n11_4 : gCode Try.prog call k (fAt Try.f11 [1,0,0]) a H K = gOps Try.prog 0 call (opsAt (fAt Try.f11 [1,0,0])) ((opsAt (fAt Try.f11 [1,0,0])).drop 0) a H (K .normal) := at_region (by kernel_rfl)
theorem n11_5 : gCode Try.prog call k (fAt Try.f11 [1,0,1]) a H K = gCode Try.prog call k (fAt Try.f11 [1,0,1,0]) a H (hSeq (gCode Try.prog call k (fAt Try.f11 [1,0,1,1])) K) := at_seq (by kernel_rfl)
theorem n11_6 : gCode Try.prog call k (fAt Try.f11 [1,0,1,0]) a H K = gOps Try.prog 0 call (opsAt (fAt Try.f11 [1,0,1,0])) ((opsAt (fAt Try.f11 [1,0,1,0])).drop 0) a H (K .normal) := at_region (by kernel_rfl)
theorem n11_7 : gCode Try.prog call k (fAt Try.f11 [1,0,1,1]) a H K = onBool (asB (GA.eval a (.tmp 15))) (gCode Try.prog call k (fAt Try.f11 [1,0,1,1,0]) a H K) (gCode Try.prog call k (fAt Try.f11 [1,0,1,1,1]) a H K) := at_cond (by kernel_rfl)
theorem n11_8 : gCode Try.prog call k (fAt Try.f11 [1,0,1,1,0]) a H K = gCode Try.prog call k (fAt Try.f11 [1,0,1,1,0,0]) a H (hSeq (gCode Try.prog call k (fAt Try.f11 [1,0,1,1,0,1])) K) := at_seq (by kernel_rfl)
theorem n11_9 : gCode Try.prog call k (fAt Try.f11 [1,0,1,1,0,0]) a H K = gOps Try.prog 0 call (opsAt (fAt Try.f11 [1,0,1,1,0,0])) ((opsAt (fAt Try.f11 [1,0,1,1,0,0])).drop 0) a H (K .normal) := at_region (by kernel_rfl)
theorem n11_10 : gCode Try.prog call k (fAt Try.f11 [1,0,1,1,0,1]) a H K = K .ret a H := at_ret (by kernel_rfl)
theorem n11_11 : gCode Try.prog call k (fAt Try.f11 [1,0,1,1,1]) a H K = K .normal a H := at_skip (by kernel_rfl)
theorem n11_12 : gCode Try.prog call k (fAt Try.f11 [1,1]) a H K = gCode Try.prog call k (fAt Try.f11 [1,1,0]) a H (hSeq (gCode Try.prog call k (fAt Try.f11 [1,1,1])) K) := at_seq (by kernel_rfl)
theorem n11_13 : gCode Try.prog call k (fAt Try.f11 [1,1,0]) a H K = gCode Try.prog call k (fAt Try.f11 [1,1,0,0]) a H (hSeq (gCode Try.prog call k (fAt Try.f11 [1,1,0,1])) K) := at_seq (by kernel_rfl)
theorem n11_14 : gCode Try.prog call k (fAt Try.f11 [1,1,0,0]) a H K = gOps Try.prog 0 call (opsAt (fAt Try.f11 [1,1,0,0])) ((opsAt (fAt Try.f11 [1,1,0,0])).drop 0) a H (K .normal) := at_region (by kernel_rfl)
theorem n11_15 : gCode Try.prog call k (fAt Try.f11 [1,1,0,1]) a H K = onBool (asB (GA.eval a (.tmp 32))) (gCode Try.prog call k (fAt Try.f11 [1,1,0,1,0]) a H K) (gCode Try.prog call k (fAt Try.f11 [1,1,0,1,1]) a H K) := at_cond (by kernel_rfl)
theorem n11_16 : gCode Try.prog call k (fAt Try.f11 [1,1,0,1,0]) a H K = gCode Try.prog call k (fAt Try.f11 [1,1,0,1,0,0]) a H (hSeq (gCode Try.prog call k (fAt Try.f11 [1,1,0,1,0,1])) K) := at_seq (by kernel_rfl)
theorem n11_17 : gCode Try.prog call k (fAt Try.f11 [1,1,0,1,0,0]) a H K = gOps Try.prog 0 call (opsAt (fAt Try.f11 [1,1,0,1,0,0])) ((opsAt (fAt Try.f11 [1,1,0,1,0,0])).drop 0) a H (K .normal) := at_region (by kernel_rfl)
theorem n11_18 : gCode Try.prog call k (fAt Try.f11 [1,1,0,1,0,1]) a H K = K .ret a H := at_ret (by kernel_rfl)
theorem n11_19 : gCode Try.prog call k (fAt Try.f11 [1,1,0,1,1]) a H K = K .normal a H := at_skip (by kernel_rfl)
theorem n11_20 : gCode Try.prog call k (fAt Try.f11 [1,1,1]) a H K = gCode Try.prog call k (fAt Try.f11 [1,1,1,0]) a H (hSeq (gCode Try.prog call k (fAt Try.f11 [1,1,1,1])) K) := at_seq (by kernel_rfl)
theorem n11_21 : gCode Try.prog call k (fAt Try.f11 [1,1,1,0]) a H K = gOps Try.prog 2 call (opsAt (fAt Try.f11 [1,1,1,0])) ((opsAt (fAt Try.f11 [1,1,1,0])).drop 0) a H (K .normal) := at_region (by kernel_rfl)
theorem n11_22 : gCode Try.prog call k (fAt Try.f11 [1,1,1,1]) a H K = gCode Try.prog call k (fAt Try.f11 [1,1,1,1,0]) a H (hSeq (gCode Try.prog call k (fAt Try.f11 [1,1,1,1,1])) K) := at_seq (by kernel_rfl)
theorem n11_23 : gCode Try.prog call k (fAt Try.f11 [1,1,1,1,0]) a H K = gOps Try.prog 0 call (opsAt (fAt Try.f11 [1,1,1,1,0])) ((opsAt (fAt Try.f11 [1,1,1,1,0])).drop 0) a H (K .normal) := at_region (by kernel_rfl)
theorem n11_24 : gCode Try.prog call k (fAt Try.f11 [1,1,1,1,1]) a H K = gCode Try.prog call k (fAt Try.f11 [1,1,1,1,1,0]) a H (hSeq (gCode Try.prog call k (fAt Try.f11 [1,1,1,1,1,1])) K) := at_seq (by kernel_rfl)
theorem n11_25 : gCode Try.prog call k (fAt Try.f11 [1,1,1,1,1,0]) a H K = gCode Try.prog call k (fAt Try.f11 [1,1,1,1,1,0,0]) a H (hSeq (gCode Try.prog call k (fAt Try.f11 [1,1,1,1,1,0,1])) K) := at_seq (by kernel_rfl)
theorem n11_26 : gCode Try.prog call k (fAt Try.f11 [1,1,1,1,1,0,0]) a H K = gOps Try.prog 0 call (opsAt (fAt Try.f11 [1,1,1,1,1,0,0])) ((opsAt (fAt Try.f11 [1,1,1,1,1,0,0])).drop 0) a H (K .normal) := at_region (by kernel_rfl)
theorem n11_27 : gCode Try.prog call k (fAt Try.f11 [1,1,1,1,1,0,1]) a H K = onBool (asB (GA.eval a (.tmp 46))) (gCode Try.prog call k (fAt Try.f11 [1,1,1,1,1,0,1,0]) a H K) (gCode Try.prog call k (fAt Try.f11 [1,1,1,1,1,0,1,1]) a H K) := at_cond (by kernel_rfl)
theorem n11_28 : gCode Try.prog call k (fAt Try.f11 [1,1,1,1,1,0,1,1]) a H K = K .normal a H := at_skip (by kernel_rfl)
theorem n11_29 : gCode Try.prog call k (fAt Try.f11 [1,1,1,1,1,0,1,0]) a H K = gOps Try.prog 0 call (opsAt (fAt Try.f11 [1,1,1,1,1,0,1,0])) ((opsAt (fAt Try.f11 [1,1,1,1,1,0,1,0])).drop 0) a H (K .normal) := at_region (by kernel_rfl)
theorem n11_30 : gCode Try.prog call k (fAt Try.f11 [1,1,1,1,1,1]) a H K = gCode Try.prog call k (fAt Try.f11 [1,1,1,1,1,1,0]) a H (hSeq (gCode Try.prog call k (fAt Try.f11 [1,1,1,1,1,1,1])) K) := at_seq (by kernel_rfl)
theorem n11_31 : gCode Try.prog call k (fAt Try.f11 [1,1,1,1,1,1,0]) a H K = gCode Try.prog call k (fAt Try.f11 [1,1,1,1,1,1,0,0]) a H (hBlock 0 K) := at_block (by kernel_rfl)
theorem n11_32 : gCode Try.prog call k (fAt Try.f11 [1,1,1,1,1,1,0,0]) a H K = gCode Try.prog call k (fAt Try.f11 [1,1,1,1,1,1,0,0,0]) a H (hSeq (gCode Try.prog call k (fAt Try.f11 [1,1,1,1,1,1,0,0,1])) K) := at_seq (by kernel_rfl)
theorem n11_33 : gCode Try.prog call k (fAt Try.f11 [1,1,1,1,1,1,0,0,0]) a H K = gOps Try.prog 0 call (opsAt (fAt Try.f11 [1,1,1,1,1,1,0,0,0])) ((opsAt (fAt Try.f11 [1,1,1,1,1,1,0,0,0])).drop 0) a H (K .normal) := at_region (by kernel_rfl)
theorem n11_34 : gCode Try.prog call k (fAt Try.f11 [1,1,1,1,1,1,0,0,1]) a H K = onBool (asB (GA.eval a (.tmp 51))) (gCode Try.prog call k (fAt Try.f11 [1,1,1,1,1,1,0,0,1,0]) a H K) (gCode Try.prog call k (fAt Try.f11 [1,1,1,1,1,1,0,0,1,1]) a H K) := at_cond (by kernel_rfl)
theorem n11_35 : gCode Try.prog call k (fAt Try.f11 [1,1,1,1,1,1,0,0,1,0]) a H K = gCode Try.prog call k (fAt Try.f11 [1,1,1,1,1,1,0,0,1,0,0]) a H (hSeq (gCode Try.prog call k (fAt Try.f11 [1,1,1,1,1,1,0,0,1,0,1])) K) := at_seq (by kernel_rfl)
theorem n11_36 : gCode Try.prog call k (fAt Try.f11 [1,1,1,1,1,1,0,0,1,0,0]) a H K = gOps Try.prog 0 call (opsAt (fAt Try.f11 [1,1,1,1,1,1,0,0,1,0,0])) ((opsAt (fAt Try.f11 [1,1,1,1,1,1,0,0,1,0,0])).drop 0) a H (K .normal) := at_region (by kernel_rfl)
theorem n11_37 : gCode Try.prog call k (fAt Try.f11 [1,1,1,1,1,1,0,0,1,0,1]) a H K = K .ret a H := at_ret (by kernel_rfl)
theorem n11_38 : gCode Try.prog call k (fAt Try.f11 [1,1,1,1,1,1,0,0,1,1]) a H K = gCode Try.prog call k (fAt Try.f11 [1,1,1,1,1,1,0,0,1,1,0]) a H (hSeq (gCode Try.prog call k (fAt Try.f11 [1,1,1,1,1,1,0,0,1,1,1])) K) := at_seq (by kernel_rfl)
theorem n11_39 : gCode Try.prog call k (fAt Try.f11 [1,1,1,1,1,1,0,0,1,1,0]) a H K = gOps Try.prog 0 call (opsAt (fAt Try.f11 [1,1,1,1,1,1,0,0,1,1,0])) ((opsAt (fAt Try.f11 [1,1,1,1,1,1,0,0,1,1,0])).drop 0) a H (K .normal) := at_region (by kernel_rfl)
theorem n11_40 : gCode Try.prog call k (fAt Try.f11 [1,1,1,1,1,1,0,0,1,1,1]) a H K = onBool (asB (GA.eval a (.tmp 56))) (gCode Try.prog call k (fAt Try.f11 [1,1,1,1,1,1,0,0,1,1,1,0]) a H K) (gCode Try.prog call k (fAt Try.f11 [1,1,1,1,1,1,0,0,1,1,1,1]) a H K) := at_cond (by kernel_rfl)
theorem n11_41 : gCode Try.prog call k (fAt Try.f11 [1,1,1,1,1,1,0,0,1,1,1,0]) a H K = gCode Try.prog call k (fAt Try.f11 [1,1,1,1,1,1,0,0,1,1,1,0,0]) a H (hSeq (gCode Try.prog call k (fAt Try.f11 [1,1,1,1,1,1,0,0,1,1,1,0,1])) K) := at_seq (by kernel_rfl)
theorem n11_42 : gCode Try.prog call k (fAt Try.f11 [1,1,1,1,1,1,0,0,1,1,1,0,0]) a H K = gOps Try.prog 0 call (opsAt (fAt Try.f11 [1,1,1,1,1,1,0,0,1,1,1,0,0])) ((opsAt (fAt Try.f11 [1,1,1,1,1,1,0,0,1,1,1,0,0])).drop 0) a H (K .normal) := at_region (by kernel_rfl)
theorem n11_43 : gCode Try.prog call k (fAt Try.f11 [1,1,1,1,1,1,0,0,1,1,1,0,1]) a H K = K .ret a H := at_ret (by kernel_rfl)
theorem n11_44 : gCode Try.prog call k (fAt Try.f11 [1,1,1,1,1,1,0,0,1,1,1,1]) a H K = K .normal a H := at_skip (by kernel_rfl)
theorem n11_45 : gCode Try.prog call k (fAt Try.f11 [1,1,1,1,1,1,1]) a H K = gCode Try.prog call k (fAt Try.f11 [1,1,1,1,1,1,1,0]) a H (hSeq (gCode Try.prog call k (fAt Try.f11 [1,1,1,1,1,1,1,1])) K) := at_seq (by kernel_rfl)
theorem n11_46 : gCode Try.prog call k (fAt Try.f11 [1,1,1,1,1,1,1,0]) a H K = gOps Try.prog 2 call (opsAt (fAt Try.f11 [1,1,1,1,1,1,1,0])) ((opsAt (fAt Try.f11 [1,1,1,1,1,1,1,0])).drop 0) a H (K .normal) := at_region (by kernel_rfl)
theorem n11_47 : gCode Try.prog call k (fAt Try.f11 [1,1,1,1,1,1,1,1]) a H K = K .ret a H := at_ret (by kernel_rfl)
theorem s11_0 : gOps Try.prog 0 call (opsAt (fAt Try.f11 [0])) ((opsAt (fAt Try.f11 [0])).drop 0) (p0::p1::p2::undef::undef::undef::undef::undef::undef::undef::undef::undef::undef::undef::undef::undef::undef::undef::undef::undef::undef::undef::undef::undef::undef::undef::undef::undef::undef::undef::undef::undef::undef::undef::undef::undef::undef::undef::undef::undef::undef::undef::undef::undef::undef::undef::undef::undef::undef::undef::undef::undef::undef::undef::undef::undef::undef::undef::undef::undef::undef::undef::undef::undef::undef::undef::undef::[]) H K' =
  K' (p0::p1::p2::(.pointer (some ⟨H.n, 0, none⟩))::(.pointer (some ⟨(GH.push H (.row (Value.cells p0).toList 24 false)).n, 0, none⟩))::(.pointer (some ⟨(GH.push (GH.push H (.row (Value.cells p0).toList 24 false)) (.row (Value.cells p1).toList 35 false)).n, 0, none⟩))::(.pointer (some ⟨(GH.push (GH.push (GH.push H (.row (Value.cells p0).toList 24 false)) (.row (Value.cells p1).toList 35 false)) (.row (Value.cells p2).toList 35 false)).n, 0, none⟩))::(.int .i64 0)::undef::undef::undef::undef::undef::undef::undef::undef::undef::undef::undef::undef::undef::undef::undef::undef::undef::undef::undef::undef::undef::undef::undef::undef::undef::undef::undef::undef::undef::undef::undef::undef::undef::undef::undef::undef::undef::undef::undef::undef::undef::undef::undef::undef::undef::undef::undef::undef::undef::undef::undef::undef::undef::undef::undef::undef::undef::undef::undef::[]) (GH.push (GH.push (GH.push (GH.push H (.row (Value.cells p0).toList 24 false)) (.row (Value.cells p1).toList 35 false)) (.row (Value.cells p2).toList 35 false)) (.row [(.slice none 0 0), (.slice none 0 0)] 24 false)) := by kernel_rfl
theorem s11_1 : gOps Try.prog 0 call (opsAt (fAt Try.f11 [1,0,0])) ((opsAt (fAt Try.f11 [1,0,0])).drop 0) (p0::p1::p2::(.pointer (some ⟨H.n, 0, none⟩))::(.pointer (some ⟨(GH.push H (.row (Value.cells p0).toList 24 false)).n, 0, none⟩))::(.pointer (some ⟨(GH.push (GH.push H (.row (Value.cells p0).toList 24 false)) (.row (Value.cells p1).toList 35 false)).n, 0, none⟩))::(.pointer (some ⟨(GH.push (GH.push (GH.push H (.row (Value.cells p0).toList 24 false)) (.row (Value.cells p1).toList 35 false)) (.row (Value.cells p2).toList 35 false)).n, 0, none⟩))::(.int .i64 0)::undef::undef::undef::undef::undef::undef::undef::undef::undef::undef::undef::undef::undef::undef::undef::undef::undef::undef::undef::undef::undef::undef::undef::undef::undef::undef::undef::undef::undef::undef::undef::undef::undef::undef::undef::undef::undef::undef::undef::undef::undef::undef::undef::undef::undef::undef::undef::undef::undef::undef::undef::undef::undef::undef::undef::undef::undef::undef::undef::[]) (GH.push (GH.push (GH.push (GH.push H (.row (Value.cells p0).toList 24 false)) (.row (Value.cells p1).toList 35 false)) (.row (Value.cells p2).toList 35 false)) (.row [(.slice none 0 0), (.slice none 0 0)] 24 false)) K' =
  onV (gLoad Try.prog 24 (.pointer (some ⟨H.n, 0, none⟩)) (GH.push (GH.push (GH.push (GH.push H (.row (Value.cells p0).toList 24 false)) (.row (Value.cells p1).toList 35 false)) (.row (Value.cells p2).toList 35 false)) (.row [(.slice none 0 0), (.slice none 0 0)] 24 false))) fun v1 =>
  onCall 0 call (.func (.func 9) #[] #[]) [v1] (GH.push (GH.push (GH.push (GH.push H (.row (Value.cells p0).toList 24 false)) (.row (Value.cells p1).toList 35 false)) (.row (Value.cells p2).toList 35 false)) (.row [(.slice none 0 0), (.slice none 0 0)] 24 false)) fun v2 H3 =>
  K' (p0::p1::p2::(.pointer (some ⟨H.n, 0, none⟩))::(.pointer (some ⟨(GH.push H (.row (Value.cells p0).toList 24 false)).n, 0, none⟩))::(.pointer (some ⟨(GH.push (GH.push H (.row (Value.cells p0).toList 24 false)) (.row (Value.cells p1).toList 35 false)).n, 0, none⟩))::(.pointer (some ⟨(GH.push (GH.push (GH.push H (.row (Value.cells p0).toList 24 false)) (.row (Value.cells p1).toList 35 false)) (.row (Value.cells p2).toList 35 false)).n, 0, none⟩))::(.int .i64 0)::v2::undef::undef::undef::v1::v2::undef::undef::undef::undef::undef::undef::undef::undef::undef::undef::undef::undef::undef::undef::undef::undef::undef::undef::undef::undef::undef::undef::undef::undef::undef::undef::undef::undef::undef::undef::undef::undef::undef::undef::undef::undef::undef::undef::undef::undef::undef::undef::undef::undef::undef::undef::undef::undef::undef::undef::undef::undef::undef::[]) H3 := by kernel_rfl
theorem s11_2 : gOps Try.prog 0 call (opsAt (fAt Try.f11 [1,0,1,0])) ((opsAt (fAt Try.f11 [1,0,1,0])).drop 0) (p0::p1::p2::(.pointer (some ⟨H.n, 0, none⟩))::(.pointer (some ⟨(GH.push H (.row (Value.cells p0).toList 24 false)).n, 0, none⟩))::(.pointer (some ⟨(GH.push (GH.push H (.row (Value.cells p0).toList 24 false)) (.row (Value.cells p1).toList 35 false)).n, 0, none⟩))::(.pointer (some ⟨(GH.push (GH.push (GH.push H (.row (Value.cells p0).toList 24 false)) (.row (Value.cells p1).toList 35 false)) (.row (Value.cells p2).toList 35 false)).n, 0, none⟩))::(.int .i64 0)::v2::undef::undef::undef::v1::v2::undef::undef::undef::undef::undef::undef::undef::undef::undef::undef::undef::undef::undef::undef::undef::undef::undef::undef::undef::undef::undef::undef::undef::undef::undef::undef::undef::undef::undef::undef::undef::undef::undef::undef::undef::undef::undef::undef::undef::undef::undef::undef::undef::undef::undef::undef::undef::undef::undef::undef::undef::undef::undef::[]) H3 K' =
  onV ((oBin Try.prog .neq 27 v2 (.int .i64 0)).filter closed) fun v4 =>
  K' (p0::p1::p2::(.pointer (some ⟨H.n, 0, none⟩))::(.pointer (some ⟨(GH.push H (.row (Value.cells p0).toList 24 false)).n, 0, none⟩))::(.pointer (some ⟨(GH.push (GH.push H (.row (Value.cells p0).toList 24 false)) (.row (Value.cells p1).toList 35 false)).n, 0, none⟩))::(.pointer (some ⟨(GH.push (GH.push (GH.push H (.row (Value.cells p0).toList 24 false)) (.row (Value.cells p1).toList 35 false)) (.row (Value.cells p2).toList 35 false)).n, 0, none⟩))::(.int .i64 0)::v2::undef::undef::undef::v1::v2::v2::v4::undef::undef::undef::undef::undef::undef::undef::undef::undef::undef::undef::undef::undef::undef::undef::undef::undef::undef::undef::undef::undef::undef::undef::undef::undef::undef::undef::undef::undef::undef::undef::undef::undef::undef::undef::undef::undef::undef::undef::undef::undef::undef::undef::undef::undef::undef::undef::undef::undef::undef::undef::[]) H3 := by kernel_rfl
theorem s11_3 : gOps Try.prog 0 call (opsAt (fAt Try.f11 [1,0,1,1,0,0])) ((opsAt (fAt Try.f11 [1,0,1,1,0,0])).drop 0) (p0::p1::p2::(.pointer (some ⟨H.n, 0, none⟩))::(.pointer (some ⟨(GH.push H (.row (Value.cells p0).toList 24 false)).n, 0, none⟩))::(.pointer (some ⟨(GH.push (GH.push H (.row (Value.cells p0).toList 24 false)) (.row (Value.cells p1).toList 35 false)).n, 0, none⟩))::(.pointer (some ⟨(GH.push (GH.push (GH.push H (.row (Value.cells p0).toList 24 false)) (.row (Value.cells p1).toList 35 false)) (.row (Value.cells p2).toList 35 false)).n, 0, none⟩))::(.int .i64 0)::v2::undef::undef::undef::v1::v2::v2::v4::undef::undef::undef::undef::undef::undef::undef::undef::undef::undef::undef::undef::undef::undef::undef::undef::undef::undef::undef::undef::undef::undef::undef::undef::undef::undef::undef::undef::undef::undef::undef::undef::undef::undef::undef::undef::undef::undef::undef::undef::undef::undef::undef::undef::undef::undef::undef::undef::undef::undef::undef::[]) H3 K' =
  onH (gStore Try.prog 24 (.pointer (some ⟨(GH.push (GH.push (GH.push H (.row (Value.cells p0).toList 24 false)) (.row (Value.cells p1).toList 35 false)) (.row (Value.cells p2).toList 35 false)).n, 0, none⟩)) (.agg #[(.slice none 0 0), (.slice none 0 0)]) H3) fun H5 =>
  K' (p0::p1::p2::(.pointer (some ⟨H.n, 0, none⟩))::(.pointer (some ⟨(GH.push H (.row (Value.cells p0).toList 24 false)).n, 0, none⟩))::(.pointer (some ⟨(GH.push (GH.push H (.row (Value.cells p0).toList 24 false)) (.row (Value.cells p1).toList 35 false)).n, 0, none⟩))::(.pointer (some ⟨(GH.push (GH.push (GH.push H (.row (Value.cells p0).toList 24 false)) (.row (Value.cells p1).toList 35 false)) (.row (Value.cells p2).toList 35 false)).n, 0, none⟩))::v2::v2::undef::undef::undef::v1::v2::v2::v4::(.agg #[(.slice none 0 0), (.slice none 0 0)])::v2::undef::undef::undef::undef::undef::undef::undef::undef::undef::undef::undef::undef::undef::undef::undef::undef::undef::undef::undef::undef::undef::undef::undef::undef::undef::undef::undef::undef::undef::undef::undef::undef::undef::undef::undef::undef::undef::undef::undef::undef::undef::undef::undef::undef::undef::undef::undef::undef::undef::[]) H5 := by kernel_rfl
theorem s11_4 : gOps Try.prog 0 call (opsAt (fAt Try.f11 [1,1,0,0])) (((opsAt (fAt Try.f11 [1,1,0,0])).drop 0).take 4) (x0::x1::x2::x3::x4::x5::x6::x7::x8::x9::x10::x11::x12::x13::x14::x15::x16::x17::x18::x19::x20::x21::x22::x23::x24::x25::x26::x27::x28::x29::x30::x31::x32::x33::x34::x35::x36::x37::x38::x39::x40::x41::x42::x43::x44::x45::x46::x47::x48::x49::x50::x51::x52::x53::x54::x55::x56::x57::x58::x59::x60::x61::x62::x63::x64::x65::x66::[]) H K' =
  onV (gLoad Try.prog 35 x4 H) fun v1 =>
  onCall 0 call (.func (.func 50) #[] #[]) [v1] H fun v2 H3 =>
  onV ((oBin Try.prog .neq 27 v2 (.int .i64 0)).filter closed) fun v4 =>
  K' (x0::x1::x2::x3::x4::x5::x6::x7::x8::x9::x10::x11::x12::x13::x14::x15::x16::x17::v1::v2::v4::v4::x22::x23::x24::x25::x26::x27::x28::x29::x30::x31::x32::x33::x34::x35::x36::x37::x38::x39::x40::x41::x42::x43::x44::x45::x46::x47::x48::x49::x50::x51::x52::x53::x54::x55::x56::x57::x58::x59::x60::x61::x62::x63::x64::x65::x66::[]) H3 := by kernel_rfl
theorem s11_5 : gOps Try.prog 0 call (opsAt (fAt Try.f11 [1,1,0,0])) ((opsAt (fAt Try.f11 [1,1,0,0])).drop 4) (x0::x1::x2::x3::x4::x5::x6::x7::x8::x9::x10::x11::x12::x13::x14::x15::x16::x17::x18::x19::x20::(.bool true)::x22::x23::x24::x25::x26::x27::x28::x29::x30::x31::x32::x33::x34::x35::x36::x37::x38::x39::x40::x41::x42::x43::x44::x45::x46::x47::x48::x49::x50::x51::x52::x53::x54::x55::x56::x57::x58::x59::x60::x61::x62::x63::x64::x65::x66::[]) H K' =
  K' (x0::x1::x2::x3::x4::x5::x6::x7::x8::x9::x10::x11::x12::x13::x14::x15::x16::x17::x18::x19::x20::(.bool true)::undef::undef::undef::(.bool true)::(.bool true)::undef::undef::undef::undef::undef::(.bool true)::x33::x34::x35::x36::x37::x38::x39::x40::x41::x42::x43::x44::x45::x46::x47::x48::x49::x50::x51::x52::x53::x54::x55::x56::x57::x58::x59::x60::x61::x62::x63::x64::x65::x66::[]) H := by kernel_rfl
theorem s11_6 : gOps Try.prog 0 call (opsAt (fAt Try.f11 [1,1,0,0])) (((opsAt (fAt Try.f11 [1,1,0,0])).drop 4).take 5) (x0::x1::x2::x3::x4::x5::x6::x7::x8::x9::x10::x11::x12::x13::x14::x15::x16::x17::x18::x19::x20::(.bool false)::x22::x23::x24::x25::x26::x27::x28::x29::x30::x31::x32::x33::x34::x35::x36::x37::x38::x39::x40::x41::x42::x43::x44::x45::x46::x47::x48::x49::x50::x51::x52::x53::x54::x55::x56::x57::x58::x59::x60::x61::x62::x63::x64::x65::x66::[]) H K' =
  onV (gLoad Try.prog 35 x5 H) fun v1 =>
  onCall 0 call (.func (.func 50) #[] #[]) [v1] H fun v2 H3 =>
  onV ((oBin Try.prog .neq 27 v2 (.int .i64 0)).filter closed) fun v4 =>
  K' (x0::x1::x2::x3::x4::x5::x6::x7::x8::x9::x10::x11::x12::x13::x14::x15::x16::x17::x18::x19::x20::(.bool false)::v1::v2::v4::v4::v4::x27::x28::x29::x30::x31::x32::x33::x34::x35::x36::x37::x38::x39::x40::x41::x42::x43::x44::x45::x46::x47::x48::x49::x50::x51::x52::x53::x54::x55::x56::x57::x58::x59::x60::x61::x62::x63::x64::x65::x66::[]) H3 := by kernel_rfl
theorem s11_7 : gOps Try.prog 0 call (opsAt (fAt Try.f11 [1,1,0,1,0,0])) ((opsAt (fAt Try.f11 [1,1,0,1,0,0])).drop 0) (x0::x1::x2::x3::x4::x5::x6::x7::x8::x9::x10::x11::x12::x13::x14::x15::x16::x17::x18::x19::x20::x21::x22::x23::x24::x25::x26::x27::x28::x29::x30::x31::x32::x33::x34::x35::x36::x37::x38::x39::x40::x41::x42::x43::x44::x45::x46::x47::x48::x49::x50::x51::x52::x53::x54::x55::x56::x57::x58::x59::x60::x61::x62::x63::x64::x65::x66::[]) H K' =
  onH (gStore Try.prog 24 x6 (.agg #[(.slice none 0 0), (.slice none 0 0)]) H) fun H1 =>
  K' (x0::x1::x2::x3::x4::x5::x6::(.int .i64 1)::x8::x9::x10::x11::x12::x13::x14::x15::x16::x17::x18::x19::x20::x21::x22::x23::x24::x25::x26::x27::x28::x29::x30::x31::x32::(.agg #[(.slice none 0 0), (.slice none 0 0)])::x34::x35::x36::x37::x38::x39::x40::x41::x42::x43::x44::x45::x46::x47::x48::x49::x50::x51::x52::x53::x54::x55::x56::x57::x58::x59::x60::x61::x62::x63::x64::x65::x66::[]) H1 := by kernel_rfl
theorem s11_8 : gOps Try.prog 0 call (opsAt (fAt Try.f11 [1,1,0,0])) ((opsAt (fAt Try.f11 [1,1,0,0])).drop 9) (x0::x1::x2::x3::x4::x5::x6::x7::x8::x9::x10::x11::x12::x13::x14::x15::x16::x17::x18::x19::x20::x21::x22::x23::x24::x25::(.bool true)::x27::x28::x29::x30::x31::x32::x33::x34::x35::x36::x37::x38::x39::x40::x41::x42::x43::x44::x45::x46::x47::x48::x49::x50::x51::x52::x53::x54::x55::x56::x57::x58::x59::x60::x61::x62::x63::x64::x65::x66::[]) H K' =
  K' (x0::x1::x2::x3::x4::x5::x6::x7::x8::x9::x10::x11::x12::x13::x14::x15::x16::x17::x18::x19::x20::x21::x22::x23::x24::x25::(.bool true)::undef::undef::undef::undef::undef::(.bool true)::x33::x34::x35::x36::x37::x38::x39::x40::x41::x42::x43::x44::x45::x46::x47::x48::x49::x50::x51::x52::x53::x54::x55::x56::x57::x58::x59::x60::x61::x62::x63::x64::x65::x66::[]) H := by kernel_rfl
theorem s11_9 : gOps Try.prog 0 call (opsAt (fAt Try.f11 [1,1,0,1,0,0])) ((opsAt (fAt Try.f11 [1,1,0,1,0,0])).drop 0) (x0::x1::x2::x3::x4::x5::x6::x7::x8::x9::x10::x11::x12::x13::x14::x15::x16::x17::x18::x19::x20::x21::x22::x23::x24::x25::(.bool true)::undef::undef::undef::undef::undef::(.bool true)::x33::x34::x35::x36::x37::x38::x39::x40::x41::x42::x43::x44::x45::x46::x47::x48::x49::x50::x51::x52::x53::x54::x55::x56::x57::x58::x59::x60::x61::x62::x63::x64::x65::x66::[]) H K' =
  onH (gStore Try.prog 24 x6 (.agg #[(.slice none 0 0), (.slice none 0 0)]) H) fun H1 =>
  K' (x0::x1::x2::x3::x4::x5::x6::(.int .i64 1)::x8::x9::x10::x11::x12::x13::x14::x15::x16::x17::x18::x19::x20::x21::x22::x23::x24::x25::(.bool true)::undef::undef::undef::undef::undef::(.bool true)::(.agg #[(.slice none 0 0), (.slice none 0 0)])::x34::x35::x36::x37::x38::x39::x40::x41::x42::x43::x44::x45::x46::x47::x48::x49::x50::x51::x52::x53::x54::x55::x56::x57::x58::x59::x60::x61::x62::x63::x64::x65::x66::[]) H1 := by kernel_rfl
theorem s11_10 : gOps Try.prog 0 call (opsAt (fAt Try.f11 [1,1,0,0])) ((opsAt (fAt Try.f11 [1,1,0,0])).drop 9) (x0::x1::x2::x3::x4::x5::x6::x7::x8::x9::x10::x11::x12::x13::x14::x15::x16::x17::x18::x19::x20::x21::x22::x23::x24::x25::(.bool false)::x27::x28::x29::x30::x31::x32::x33::x34::x35::x36::x37::x38::x39::x40::x41::x42::x43::x44::x45::x46::x47::x48::x49::x50::x51::x52::x53::x54::x55::x56::x57::x58::x59::x60::x61::x62::x63::x64::x65::x66::[]) H K' =
  onV (oFieldAddr Try.prog 35 x4 0) fun v1 =>
  onV (gLoad Try.prog 33 v1 H) fun v2 =>
  onV (oFieldAddr Try.prog 35 x5 0) fun v3 =>
  onV (gLoad Try.prog 33 v3 H) fun v4 =>
  onV ((oBin Try.prog .eql 33 v2 v4).filter closed) fun v5 =>
  K' (x0::x1::x2::x3::x4::x5::x6::x7::x8::x9::x10::x11::x12::x13::x14::x15::x16::x17::x18::x19::x20::x21::x22::x23::x24::x25::(.bool false)::v1::v2::v3::v4::v5::v5::x33::x34::x35::x36::x37::x38::x39::x40::x41::x42::x43::x44::x45::x46::x47::x48::x49::x50::x51::x52::x53::x54::x55::x56::x57::x58::x59::x60::x61::x62::x63::x64::x65::x66::[]) H := by kernel_rfl
theorem s11_11 : gOps Try.prog 0 call (opsAt (fAt Try.f11 [1,1,0,1,0,0])) ((opsAt (fAt Try.f11 [1,1,0,1,0,0])).drop 0) (x0::x1::x2::x3::x4::x5::x6::x7::x8::x9::x10::x11::x12::x13::x14::x15::x16::x17::x18::x19::x20::x21::x22::x23::x24::x25::(.bool false)::v1::v2::v3::v4::v5::v5::x33::x34::x35::x36::x37::x38::x39::x40::x41::x42::x43::x44::x45::x46::x47::x48::x49::x50::x51::x52::x53::x54::x55::x56::x57::x58::x59::x60::x61::x62::x63::x64::x65::x66::[]) H K' =
  onH (gStore Try.prog 24 x6 (.agg #[(.slice none 0 0), (.slice none 0 0)]) H) fun H6 =>
  K' (x0::x1::x2::x3::x4::x5::x6::(.int .i64 1)::x8::x9::x10::x11::x12::x13::x14::x15::x16::x17::x18::x19::x20::x21::x22::x23::x24::x25::(.bool false)::v1::v2::v3::v4::v5::v5::(.agg #[(.slice none 0 0), (.slice none 0 0)])::x34::x35::x36::x37::x38::x39::x40::x41::x42::x43::x44::x45::x46::x47::x48::x49::x50::x51::x52::x53::x54::x55::x56::x57::x58::x59::x60::x61::x62::x63::x64::x65::x66::[]) H6 := by kernel_rfl
theorem s11_12 : gOps Try.prog 2 call (opsAt (fAt Try.f11 [1,1,1,0])) ((opsAt (fAt Try.f11 [1,1,1,0])).drop 0) (x0::x1::x2::x3::x4::x5::x6::x7::x8::x9::x10::x11::x12::x13::x14::x15::x16::x17::x18::x19::x20::x21::x22::x23::x24::x25::x26::x27::x28::x29::x30::x31::x32::x33::x34::x35::x36::x37::x38::x39::x40::x41::x42::x43::x44::x45::x46::x47::x48::x49::x50::x51::x52::x53::x54::x55::x56::x57::x58::x59::x60::x61::x62::x63::x64::x65::x66::[]) H K' =
  onV (gLoad Try.prog 24 x3 H) fun v1 =>
  onV (gLoad Try.prog 35 x4 H) fun v2 =>
  onCall 2 call (.func (.func 42) #[] #[]) [v1, v2] H fun v3 H4 =>
  onV (gLoad Try.prog 24 x3 H4) fun v5 =>
  onV (gLoad Try.prog 35 x5 H4) fun v6 =>
  onCall 2 call (.func (.func 42) #[] #[]) [v5, v6] H4 fun v7 H8 =>
  K' (x0::x1::x2::x3::x4::x5::x6::x7::x8::v3::v7::x11::x12::x13::x14::x15::x16::x17::x18::x19::x20::x21::x22::x23::x24::x25::x26::x27::x28::x29::x30::x31::x32::x33::v1::v2::v3::v5::v6::v7::x40::x41::x42::x43::x44::x45::x46::x47::x48::x49::x50::x51::x52::x53::x54::x55::x56::x57::x58::x59::x60::x61::x62::x63::x64::x65::x66::[]) H8 := by kernel_rfl
theorem s11_13 : gOps Try.prog 0 call (opsAt (fAt Try.f11 [1,1,1,1,0])) ((opsAt (fAt Try.f11 [1,1,1,1,0])).drop 0) (x0::x1::x2::x3::x4::x5::x6::x7::x8::v3::v7::x11::x12::x13::x14::x15::x16::x17::x18::x19::x20::x21::x22::x23::x24::x25::x26::x27::x28::x29::x30::x31::x32::x33::v1::v2::v3::v5::v6::v7::x40::x41::x42::x43::x44::x45::x46::x47::x48::x49::x50::x51::x52::x53::x54::x55::x56::x57::x58::x59::x60::x61::x62::x63::x64::x65::x66::[]) H8 K' =
  onVH (gBuildSlice Try.prog 22 2 [(0, v7), (1, v3)] H8) fun v9 H10 =>
  onCall 0 call (.func (.func 53) #[] #[]) [v9] H10 fun v11 H12 =>
  K' (x0::x1::x2::x3::x4::x5::x6::x7::x8::v3::v7::v11::x12::x13::x14::x15::x16::x17::x18::x19::x20::x21::x22::x23::x24::x25::x26::x27::x28::x29::x30::x31::x32::x33::v1::v2::v3::v5::v6::v7::v7::v3::v9::v11::x44::x45::x46::x47::x48::x49::x50::x51::x52::x53::x54::x55::x56::x57::x58::x59::x60::x61::x62::x63::x64::x65::x66::[]) H12 := by kernel_rfl
theorem s11_14 : gOps Try.prog 0 call (opsAt (fAt Try.f11 [1,1,1,1,1,0,0])) ((opsAt (fAt Try.f11 [1,1,1,1,1,0,0])).drop 0) (x0::x1::x2::x3::x4::x5::x6::x7::x8::v3::v7::v11::x12::x13::x14::x15::x16::x17::x18::x19::x20::x21::x22::x23::x24::x25::x26::x27::x28::x29::x30::x31::x32::x33::v1::v2::v3::v5::v6::v7::v7::v3::v9::v11::x44::x45::x46::x47::x48::x49::x50::x51::x52::x53::x54::x55::x56::x57::x58::x59::x60::x61::x62::x63::x64::x65::x66::[]) H12 K' =
  onV (oFieldAddr Try.prog 35 x5 0) fun v13 =>
  onV (gLoad Try.prog 33 v13 H12) fun v14 =>
  onV ((oBin Try.prog .eql 33 v14 (.int .u8 0)).filter closed) fun v15 =>
  K' (x0::x1::x2::x3::x4::x5::x6::x7::x8::v3::v7::v11::x12::x13::x14::x15::x16::x17::x18::x19::x20::x21::x22::x23::x24::x25::x26::x27::x28::x29::x30::x31::x32::x33::v1::v2::v3::v5::v6::v7::v7::v3::v9::v11::v13::v14::v15::x47::x48::x49::x50::x51::x52::x53::x54::x55::x56::x57::x58::x59::x60::x61::x62::x63::x64::x65::x66::[]) H12 := by kernel_rfl
theorem s11_15 : gOps Try.prog 0 call (opsAt (fAt Try.f11 [1,1,1,1,1,0,1,0])) ((opsAt (fAt Try.f11 [1,1,1,1,1,0,1,0])).drop 0) (x0::x1::x2::x3::x4::x5::x6::x7::x8::x9::x10::x11::x12::x13::x14::x15::x16::x17::x18::x19::x20::x21::x22::x23::x24::x25::x26::x27::x28::x29::x30::x31::x32::x33::x34::x35::x36::x37::x38::x39::x40::x41::x42::x43::x44::x45::x46::x47::x48::x49::x50::x51::x52::x53::x54::x55::x56::x57::x58::x59::x60::x61::x62::x63::x64::x65::x66::[]) H K' =
  onVH (gBuildSlice Try.prog 22 2 [(0, x9), (1, x10)] H) fun v1 H2 =>
  onCall 0 call (.func (.func 53) #[] #[]) [v1] H2 fun v3 H4 =>
  K' (x0::x1::x2::x3::x4::x5::x6::x7::x8::x9::x10::v3::x12::x13::x14::x15::x16::x17::x18::x19::x20::x21::x22::x23::x24::x25::x26::x27::x28::x29::x30::x31::x32::x33::x34::x35::x36::x37::x38::x39::x40::x41::x42::x43::x44::x45::x46::x9::x10::v1::v3::x51::x52::x53::x54::x55::x56::x57::x58::x59::x60::x61::x62::x63::x64::x65::x66::[]) H4 := by kernel_rfl
theorem s11_16 : gOps Try.prog 0 call (opsAt (fAt Try.f11 [1,1,1,1,1,1,0,0,0])) ((opsAt (fAt Try.f11 [1,1,1,1,1,1,0,0,0])).drop 0) (x0::x1::x2::x3::x4::x5::x6::x7::x8::x9::x10::x11::x12::x13::x14::x15::x16::x17::x18::x19::x20::x21::x22::x23::x24::x25::x26::x27::x28::x29::x30::x31::x32::x33::x34::x35::x36::x37::x38::x39::x40::x41::x42::x43::x44::x45::x46::x47::x48::x49::x50::x51::x52::x53::x54::x55::x56::x57::x58::x59::x60::x61::x62::x63::x64::x65::x66::[]) H K' =
  onV (oLen Try.prog 26 x9) fun v1 =>
  onV ((oBin Try.prog .eql 3 v1 (.int .i64 0)).filter closed) fun v2 =>
  K' (x0::x1::x2::x3::x4::x5::x6::x7::x8::x9::x10::x11::x12::x13::x14::x15::x16::x17::x18::x19::x20::x21::x22::x23::x24::x25::x26::x27::x28::x29::x30::x31::x32::x33::x34::x35::x36::x37::x38::x39::x40::x41::x42::x43::x44::x45::x46::x47::x48::x49::x50::v2::x9::v1::v2::x55::x56::x57::x58::x59::x60::x61::x62::x63::x64::x65::x66::[]) H := by kernel_rfl
theorem s11_17 : gOps Try.prog 0 call (opsAt (fAt Try.f11 [1,1,1,1,1,1,0,0,1,0,0])) ((opsAt (fAt Try.f11 [1,1,1,1,1,1,0,0,1,0,0])).drop 0) (x0::x1::x2::x3::x4::x5::x6::x7::x8::x9::x10::x11::x12::x13::x14::x15::x16::x17::x18::x19::x20::x21::x22::x23::x24::x25::x26::x27::x28::x29::x30::x31::x32::x33::x34::x35::x36::x37::x38::x39::x40::x41::x42::x43::x44::x45::x46::x47::x48::x49::x50::v2::x9::v1::v2::x55::x56::x57::x58::x59::x60::x61::x62::x63::x64::x65::x66::[]) H K' =
  onH (gStore Try.prog 24 x6 (.agg #[(.slice none 0 0), (.slice none 0 0)]) H) fun H3 =>
  K' (x0::x1::x2::x3::x4::x5::x6::(.int .i64 13)::x8::x9::x10::x11::x12::x13::x14::x15::x16::x17::x18::x19::x20::x21::x22::x23::x24::x25::x26::x27::x28::x29::x30::x31::x32::x33::x34::x35::x36::x37::x38::x39::x40::x41::x42::x43::x44::x45::x46::x47::x48::x49::x50::v2::x9::v1::v2::(.agg #[(.slice none 0 0), (.slice none 0 0)])::x56::x57::x58::x59::x60::x61::x62::x63::x64::x65::x66::[]) H3 := by kernel_rfl
theorem s11_18 : gOps Try.prog 0 call (opsAt (fAt Try.f11 [1,1,1,1,1,1,0,0,1,1,0])) ((opsAt (fAt Try.f11 [1,1,1,1,1,1,0,0,1,1,0])).drop 0) (x0::x1::x2::x3::x4::x5::x6::x7::x8::x9::x10::x11::x12::x13::x14::x15::x16::x17::x18::x19::x20::x21::x22::x23::x24::x25::x26::x27::x28::x29::x30::x31::x32::x33::x34::x35::x36::x37::x38::x39::x40::x41::x42::x43::x44::x45::x46::x47::x48::x49::x50::v2::x9::v1::v2::x55::x56::x57::x58::x59::x60::x61::x62::x63::x64::x65::x66::[]) H K' =
  onV (oLen Try.prog 26 x11) fun v4 =>
  onV ((oBin Try.prog .gtr 3 v4 (.int .i64 4)).filter closed) fun v5 =>
  K' (x0::x1::x2::x3::x4::x5::x6::x7::x8::x9::x10::x11::x12::x13::x14::x15::x16::x17::x18::x19::x20::x21::x22::x23::x24::x25::x26::x27::x28::x29::x30::x31::x32::x33::x34::x35::x36::x37::x38::x39::x40::x41::x42::x43::x44::x45::x46::x47::x48::x49::x50::v2::x9::v1::v2::x55::v5::x11::v4::v5::x60::x61::x62::x63::x64::x65::x66::[]) H := by kernel_rfl
theorem s11_19 : gOps Try.prog 0 call (opsAt (fAt Try.f11 [1,1,1,1,1,1,0,0,1,1,1,0,0])) ((opsAt (fAt Try.f11 [1,1,1,1,1,1,0,0,1,1,1,0,0])).drop 0) (x0::x1::x2::x3::x4::x5::x6::x7::x8::x9::x10::x11::x12::x13::x14::x15::x16::x17::x18::x19::x20::x21::x22::x23::x24::x25::x26::x27::x28::x29::x30::x31::x32::x33::x34::x35::x36::x37::x38::x39::x40::x41::x42::x43::x44::x45::x46::x47::x48::x49::x50::v2::x9::v1::v2::x55::v5::x11::v4::v5::x60::x61::x62::x63::x64::x65::x66::[]) H K' =
  onH (gStore Try.prog 24 x6 (.agg #[(.slice none 0 0), (.slice none 0 0)]) H) fun H6 =>
  K' (x0::x1::x2::x3::x4::x5::x6::(.int .i64 9)::x8::x9::x10::x11::x12::x13::x14::x15::x16::x17::x18::x19::x20::x21::x22::x23::x24::x25::x26::x27::x28::x29::x30::x31::x32::x33::x34::x35::x36::x37::x38::x39::x40::x41::x42::x43::x44::x45::x46::x47::x48::x49::x50::v2::x9::v1::v2::x55::v5::x11::v4::v5::(.agg #[(.slice none 0 0), (.slice none 0 0)])::x61::x62::x63::x64::x65::x66::[]) H6 := by kernel_rfl
theorem s11_20 : gOps Try.prog 2 call (opsAt (fAt Try.f11 [1,1,1,1,1,1,1,0])) ((opsAt (fAt Try.f11 [1,1,1,1,1,1,1,0])).drop 0) (x0::x1::x2::x3::x4::x5::x6::x7::x8::x9::x10::x11::x12::x13::x14::x15::x16::x17::x18::x19::x20::x21::x22::x23::x24::x25::x26::x27::x28::x29::x30::x31::x32::x33::x34::x35::x36::x37::x38::x39::x40::x41::x42::x43::x44::x45::x46::x47::x48::x49::x50::v2::x9::v1::v2::x55::v5::x11::v4::v5::x60::x61::x62::x63::x64::x65::x66::[]) H K' =
  onV (gLoad Try.prog 24 x3 H) fun v7 =>
  onV (gLoad Try.prog 35 x4 H) fun v8 =>
  onCall 2 call (.func (.func 52) #[] #[]) [v7, v8, (.slice none 0 0)] H fun v9 H10 =>
  onV (gLoad Try.prog 35 x5 H10) fun v11 =>
  onCall 2 call (.func (.func 52) #[] #[]) [v9, v11, x11] H10 fun v12 H13 =>
  onH (gStore Try.prog 24 x6 v12 H13) fun H14 =>
  K' (x0::x1::x2::x3::x4::x5::x6::(.int .i64 0)::x8::x9::x10::x11::x12::x13::x14::x15::x16::x17::x18::x19::x20::x21::x22::x23::x24::x25::x26::x27::x28::x29::x30::x31::x32::x33::x34::x35::x36::x37::x38::x39::x40::x41::x42::x43::x44::x45::x46::x47::x48::x49::x50::v2::x9::v1::v2::x55::v5::x11::v4::v5::x60::v7::v8::v9::v11::x11::v12::[]) H14 := by kernel_rfl
noncomputable def f11_r5 (call : Handle) (k : Nat) (x6 : Value) (H : GH) : M (Value × GH) :=
  onH (gStore Try.prog 24 x6 (.agg #[(.slice none 0 0), (.slice none 0 0)]) H) fun H1 =>
  onV (gResL Try.prog H1 [(x6, some 24), ((.int .i64 1), none)]) fun v => some [(v, H1)]
theorem f11_r5_eq (call : Handle) (k : Nat) : gCode Try.prog call k (fAt Try.f11 [1,1,0,1,0,0]) (x0::x1::x2::x3::x4::x5::x6::x7::x8::x9::x10::x11::x12::x13::x14::x15::x16::x17::x18::x19::x20::x21::x22::x23::x24::x25::x26::x27::x28::x29::x30::x31::x32::x33::x34::x35::x36::x37::x38::x39::x40::x41::x42::x43::x44::x45::x46::x47::x48::x49::x50::x51::x52::x53::x54::x55::x56::x57::x58::x59::x60::x61::x62::x63::x64::x65::x66::[]) H (hSeq (gCode Try.prog call k (fAt Try.f11 [1,1,0,1,0,1])) (hSeq (gCode Try.prog call k (fAt Try.f11 [1,1,1])) (hFin Try.prog Try.f11))) = f11_r5 call k x6 H := by
  unfold f11_r5
  rw [n11_17]
  rw [s11_7]
  refine onH_c fun H1 => ?_
  rw [hSeq_n]
  rw [n11_18]
  rw [hSeq_r]
  exact fin11_ret
noncomputable def f11_r10 (call : Handle) (k : Nat) (x3 x4 x5 x6 x9 x11 : Value) (H : GH) : M (Value × GH) :=
  onV (oLen Try.prog 26 x9) fun v1 =>
  onV ((oBin Try.prog .eql 3 v1 (.int .i64 0)).filter closed) fun v2 =>
  onBool (asB v2)
  (onH (gStore Try.prog 24 x6 (.agg #[(.slice none 0 0), (.slice none 0 0)]) H) fun H3 =>
  onV (gResL Try.prog H3 [(x6, some 24), ((.int .i64 13), none)]) fun v => some [(v, H3)])
  (onV (oLen Try.prog 26 x11) fun v4 =>
  onV ((oBin Try.prog .gtr 3 v4 (.int .i64 4)).filter closed) fun v5 =>
  onBool (asB v5)
  (onH (gStore Try.prog 24 x6 (.agg #[(.slice none 0 0), (.slice none 0 0)]) H) fun H6 =>
  onV (gResL Try.prog H6 [(x6, some 24), ((.int .i64 9), none)]) fun v => some [(v, H6)])
  (onV (gLoad Try.prog 24 x3 H) fun v7 =>
  onV (gLoad Try.prog 35 x4 H) fun v8 =>
  onCall 2 call (.func (.func 52) #[] #[]) [v7, v8, (.slice none 0 0)] H fun v9 H10 =>
  onV (gLoad Try.prog 35 x5 H10) fun v11 =>
  onCall 2 call (.func (.func 52) #[] #[]) [v9, v11, x11] H10 fun v12 H13 =>
  onH (gStore Try.prog 24 x6 v12 H13) fun H14 =>
  onV (gResL Try.prog H14 [(x6, some 24), ((.int .i64 0), none)]) fun v => some [(v, H14)]))
theorem f11_r10_eq (call : Handle) (k : Nat) : gCode Try.prog call k (fAt Try.f11 [1,1,1,1,1,1]) (x0::x1::x2::x3::x4::x5::x6::x7::x8::x9::x10::x11::x12::x13::x14::x15::x16::x17::x18::x19::x20::x21::x22::x23::x24::x25::x26::x27::x28::x29::x30::x31::x32::x33::x34::x35::x36::x37::x38::x39::x40::x41::x42::x43::x44::x45::x46::x47::x48::x49::x50::x51::x52::x53::x54::x55::x56::x57::x58::x59::x60::x61::x62::x63::x64::x65::x66::[]) H (hFin Try.prog Try.f11) = f11_r10 call k x3 x4 x5 x6 x9 x11 H := by
  unfold f11_r10
  rw [n11_30]
  rw [n11_31]
  rw [n11_32]
  rw [n11_33]
  rw [s11_16]
  refine onV_c fun v1 => ?_
  refine onV_c fun v2 => ?_
  rw [hSeq_n]
  rw [n11_34]
  refine onBool_cc rfl ?_ ?_
  · rw [n11_35]
    rw [n11_36]
    rw [s11_17]
    refine onH_c fun H3 => ?_
    rw [hSeq_n]
    rw [n11_37]
    rw [hBlock_r, hSeq_r]
    exact fin11_ret
  · rw [n11_38]
    rw [n11_39]
    rw [s11_18]
    refine onV_c fun v4 => ?_
    refine onV_c fun v5 => ?_
    rw [hSeq_n]
    rw [n11_40]
    refine onBool_cc rfl ?_ ?_
    · rw [n11_41]
      rw [n11_42]
      rw [s11_19]
      refine onH_c fun H6 => ?_
      rw [hSeq_n]
      rw [n11_43]
      rw [hBlock_r, hSeq_r]
      exact fin11_ret
    · rw [n11_44]
      rw [hBlock_n]
      rw [hSeq_n]
      rw [n11_45]
      rw [n11_46]
      rw [s11_20]
      refine onV_c fun v7 => ?_
      refine onV_c fun v8 => ?_
      refine onCall_c fun v9 H10 => ?_
      refine onV_c fun v11 => ?_
      refine onCall_c fun v12 H13 => ?_
      refine onH_c fun H14 => ?_
      rw [hSeq_n]
      rw [n11_47]
      exact fin11_ret
noncomputable def f11_r9 (call : Handle) (k : Nat) (x3 x4 x5 x6 x9 x10 : Value) (H : GH) : M (Value × GH) :=
  onVH (gBuildSlice Try.prog 22 2 [(0, x9), (1, x10)] H) fun v1 H2 =>
  onCall 0 call (.func (.func 53) #[] #[]) [v1] H2 fun v3 H4 =>
  (f11_r10 call k x3 x4 x5 x6 x9 v3 H4)
theorem f11_r9_eq (call : Handle) (k : Nat) : gCode Try.prog call k (fAt Try.f11 [1,1,1,1,1,0,1,0]) (x0::x1::x2::x3::x4::x5::x6::x7::x8::x9::x10::x11::x12::x13::x14::x15::x16::x17::x18::x19::x20::x21::x22::x23::x24::x25::x26::x27::x28::x29::x30::x31::x32::x33::x34::x35::x36::x37::x38::x39::x40::x41::x42::x43::x44::x45::x46::x47::x48::x49::x50::x51::x52::x53::x54::x55::x56::x57::x58::x59::x60::x61::x62::x63::x64::x65::x66::[]) H (hSeq (gCode Try.prog call k (fAt Try.f11 [1,1,1,1,1,1])) (hFin Try.prog Try.f11)) = f11_r9 call k x3 x4 x5 x6 x9 x10 H := by
  unfold f11_r9
  rw [n11_29]
  rw [s11_15]
  refine onVH_c fun v1 H2 => ?_
  refine onCall_c fun v3 H4 => ?_
  rw [hSeq_n]
  exact f11_r10_eq call k
noncomputable def f11_r6 (call : Handle) (k : Nat) (x3 x4 x5 x6 : Value) (H : GH) : M (Value × GH) :=
  onV (gLoad Try.prog 24 x3 H) fun v1 =>
  onV (gLoad Try.prog 35 x4 H) fun v2 =>
  onCall 2 call (.func (.func 42) #[] #[]) [v1, v2] H fun v3 H4 =>
  onV (gLoad Try.prog 24 x3 H4) fun v5 =>
  onV (gLoad Try.prog 35 x5 H4) fun v6 =>
  onCall 2 call (.func (.func 42) #[] #[]) [v5, v6] H4 fun v7 H8 =>
  onVH (gBuildSlice Try.prog 22 2 [(0, v7), (1, v3)] H8) fun v9 H10 =>
  onCall 0 call (.func (.func 53) #[] #[]) [v9] H10 fun v11 H12 =>
  onV (oFieldAddr Try.prog 35 x5 0) fun v13 =>
  onV (gLoad Try.prog 33 v13 H12) fun v14 =>
  onV ((oBin Try.prog .eql 33 v14 (.int .u8 0)).filter closed) fun v15 =>
  onBool (asB v15)
  ((f11_r9 call k x3 x4 x5 x6 v3 v7 H12))
  ((f11_r10 call k x3 x4 x5 x6 v3 v11 H12))
theorem f11_r6_eq (call : Handle) (k : Nat) : gCode Try.prog call k (fAt Try.f11 [1,1,1,0]) (x0::x1::x2::x3::x4::x5::x6::x7::x8::x9::x10::x11::x12::x13::x14::x15::x16::x17::x18::x19::x20::x21::x22::x23::x24::x25::x26::x27::x28::x29::x30::x31::x32::x33::x34::x35::x36::x37::x38::x39::x40::x41::x42::x43::x44::x45::x46::x47::x48::x49::x50::x51::x52::x53::x54::x55::x56::x57::x58::x59::x60::x61::x62::x63::x64::x65::x66::[]) H (hSeq (gCode Try.prog call k (fAt Try.f11 [1,1,1,1])) (hFin Try.prog Try.f11)) = f11_r6 call k x3 x4 x5 x6 H := by
  unfold f11_r6
  rw [n11_21]
  rw [s11_12]
  refine onV_c fun v1 => ?_
  refine onV_c fun v2 => ?_
  refine onCall_c fun v3 H4 => ?_
  refine onV_c fun v5 => ?_
  refine onV_c fun v6 => ?_
  refine onCall_c fun v7 H8 => ?_
  rw [hSeq_n]
  rw [n11_22]
  rw [n11_23]
  rw [s11_13]
  refine onVH_c fun v9 H10 => ?_
  refine onCall_c fun v11 H12 => ?_
  rw [hSeq_n]
  rw [n11_24]
  rw [n11_25]
  rw [n11_26]
  rw [s11_14]
  refine onV_c fun v13 => ?_
  refine onV_c fun v14 => ?_
  refine onV_c fun v15 => ?_
  rw [hSeq_n]
  rw [n11_27]
  refine onBool_cc rfl ?_ ?_
  · exact f11_r9_eq call k
  · rw [n11_28]
    rw [hSeq_n]
    exact f11_r10_eq call k
noncomputable def f11_g4_9 (call : Handle) (k : Nat) (x26 : Value) (x3 x4 x5 x6 : Value) (H : GH) : M (Value × GH) :=
 onBool (asB x26)
  (onH (gStore Try.prog 24 x6 (.agg #[(.slice none 0 0), (.slice none 0 0)]) H) fun H1 =>
  onV (gResL Try.prog H1 [(x6, some 24), ((.int .i64 1), none)]) fun v => some [(v, H1)])
  (onV (oFieldAddr Try.prog 35 x4 0) fun v1 =>
  onV (gLoad Try.prog 33 v1 H) fun v2 =>
  onV (oFieldAddr Try.prog 35 x5 0) fun v3 =>
  onV (gLoad Try.prog 33 v3 H) fun v4 =>
  onV ((oBin Try.prog .eql 33 v2 v4).filter closed) fun v5 =>
  onBool (asB v5)
  (onH (gStore Try.prog 24 x6 (.agg #[(.slice none 0 0), (.slice none 0 0)]) H) fun H6 =>
  onV (gResL Try.prog H6 [(x6, some 24), ((.int .i64 1), none)]) fun v => some [(v, H6)])
  ((f11_r6 call k x3 x4 x5 x6 H)))
theorem f11_g4_9_true (call : Handle) (k : Nat) : gOps Try.prog 0 call (opsAt (fAt Try.f11 [1,1,0,0])) ((opsAt (fAt Try.f11 [1,1,0,0])).drop 9) (x0::x1::x2::x3::x4::x5::x6::x7::x8::x9::x10::x11::x12::x13::x14::x15::x16::x17::x18::x19::x20::x21::x22::x23::x24::x25::(.bool true)::x27::x28::x29::x30::x31::x32::x33::x34::x35::x36::x37::x38::x39::x40::x41::x42::x43::x44::x45::x46::x47::x48::x49::x50::x51::x52::x53::x54::x55::x56::x57::x58::x59::x60::x61::x62::x63::x64::x65::x66::[]) H ((hSeq (gCode Try.prog call k (fAt Try.f11 [1,1,0,1])) (hSeq (gCode Try.prog call k (fAt Try.f11 [1,1,1])) (hFin Try.prog Try.f11))) .normal) =
  onH (gStore Try.prog 24 x6 (.agg #[(.slice none 0 0), (.slice none 0 0)]) H) fun H1 =>
  onV (gResL Try.prog H1 [(x6, some 24), ((.int .i64 1), none)]) fun v => some [(v, H1)] := by
  rw [s11_8]
  rw [hSeq_n]
  rw [n11_15]
  refine (onBool_tt rfl).trans ?_
  rw [n11_16]
  rw [n11_17]
  rw [s11_9]
  refine onH_c fun H1 => ?_
  rw [hSeq_n]
  rw [n11_18]
  rw [hSeq_r]
  exact fin11_ret
theorem f11_g4_9_false (call : Handle) (k : Nat) : gOps Try.prog 0 call (opsAt (fAt Try.f11 [1,1,0,0])) ((opsAt (fAt Try.f11 [1,1,0,0])).drop 9) (x0::x1::x2::x3::x4::x5::x6::x7::x8::x9::x10::x11::x12::x13::x14::x15::x16::x17::x18::x19::x20::x21::x22::x23::x24::x25::(.bool false)::x27::x28::x29::x30::x31::x32::x33::x34::x35::x36::x37::x38::x39::x40::x41::x42::x43::x44::x45::x46::x47::x48::x49::x50::x51::x52::x53::x54::x55::x56::x57::x58::x59::x60::x61::x62::x63::x64::x65::x66::[]) H ((hSeq (gCode Try.prog call k (fAt Try.f11 [1,1,0,1])) (hSeq (gCode Try.prog call k (fAt Try.f11 [1,1,1])) (hFin Try.prog Try.f11))) .normal) =
  onV (oFieldAddr Try.prog 35 x4 0) fun v1 =>
  onV (gLoad Try.prog 33 v1 H) fun v2 =>
  onV (oFieldAddr Try.prog 35 x5 0) fun v3 =>
  onV (gLoad Try.prog 33 v3 H) fun v4 =>
  onV ((oBin Try.prog .eql 33 v2 v4).filter closed) fun v5 =>
  onBool (asB v5)
  (onH (gStore Try.prog 24 x6 (.agg #[(.slice none 0 0), (.slice none 0 0)]) H) fun H6 =>
  onV (gResL Try.prog H6 [(x6, some 24), ((.int .i64 1), none)]) fun v => some [(v, H6)])
  ((f11_r6 call k x3 x4 x5 x6 H)) := by
  rw [s11_10]
  refine onV_c fun v1 => ?_
  refine onV_c fun v2 => ?_
  refine onV_c fun v3 => ?_
  refine onV_c fun v4 => ?_
  refine onV_c fun v5 => ?_
  rw [hSeq_n]
  rw [n11_15]
  refine onBool_cc rfl ?_ ?_
  · rw [n11_16]
    rw [n11_17]
    rw [s11_11]
    refine onH_c fun H6 => ?_
    rw [hSeq_n]
    rw [n11_18]
    rw [hSeq_r]
    exact fin11_ret
  · rw [n11_19]
    rw [hSeq_n]
    rw [n11_20]
    exact f11_r6_eq call k
theorem f11_g4_9_eq (call : Handle) (k : Nat) : gOps Try.prog 0 call (opsAt (fAt Try.f11 [1,1,0,0])) ((opsAt (fAt Try.f11 [1,1,0,0])).drop 9) (x0::x1::x2::x3::x4::x5::x6::x7::x8::x9::x10::x11::x12::x13::x14::x15::x16::x17::x18::x19::x20::x21::x22::x23::x24::x25::x26::x27::x28::x29::x30::x31::x32::x33::x34::x35::x36::x37::x38::x39::x40::x41::x42::x43::x44::x45::x46::x47::x48::x49::x50::x51::x52::x53::x54::x55::x56::x57::x58::x59::x60::x61::x62::x63::x64::x65::x66::[]) H ((hSeq (gCode Try.prog call k (fAt Try.f11 [1,1,0,1])) (hSeq (gCode Try.prog call k (fAt Try.f11 [1,1,1])) (hFin Try.prog Try.f11))) .normal) =
  f11_g4_9 call k x26 x3 x4 x5 x6 H := by
  cases x26 with
  | bool b => cases b with
    | true => exact f11_g4_9_true call k
    | false => exact f11_g4_9_false call k
  | _ => kernel_rfl
noncomputable def f11_g4_4 (call : Handle) (k : Nat) (x21 : Value) (x3 x4 x5 x6 : Value) (H : GH) : M (Value × GH) :=
 onBool (asB x21)
  ((f11_r5 call k x6 H))
  (onV (gLoad Try.prog 35 x5 H) fun v1 =>
  onCall 0 call (.func (.func 50) #[] #[]) [v1] H fun v2 H3 =>
  onV ((oBin Try.prog .neq 27 v2 (.int .i64 0)).filter closed) fun v4 =>
  (f11_g4_9 call k v4 x3 x4 x5 x6 H3))
theorem f11_g4_4_true (call : Handle) (k : Nat) : gOps Try.prog 0 call (opsAt (fAt Try.f11 [1,1,0,0])) ((opsAt (fAt Try.f11 [1,1,0,0])).drop 4) (x0::x1::x2::x3::x4::x5::x6::x7::x8::x9::x10::x11::x12::x13::x14::x15::x16::x17::x18::x19::x20::(.bool true)::x22::x23::x24::x25::x26::x27::x28::x29::x30::x31::x32::x33::x34::x35::x36::x37::x38::x39::x40::x41::x42::x43::x44::x45::x46::x47::x48::x49::x50::x51::x52::x53::x54::x55::x56::x57::x58::x59::x60::x61::x62::x63::x64::x65::x66::[]) H ((hSeq (gCode Try.prog call k (fAt Try.f11 [1,1,0,1])) (hSeq (gCode Try.prog call k (fAt Try.f11 [1,1,1])) (hFin Try.prog Try.f11))) .normal) =
  (f11_r5 call k x6 H) := by
  rw [s11_5]
  rw [hSeq_n]
  rw [n11_15]
  refine (onBool_tt rfl).trans ?_
  rw [n11_16]
  exact f11_r5_eq call k
theorem f11_g4_4_false (call : Handle) (k : Nat) : gOps Try.prog 0 call (opsAt (fAt Try.f11 [1,1,0,0])) ((opsAt (fAt Try.f11 [1,1,0,0])).drop 4) (x0::x1::x2::x3::x4::x5::x6::x7::x8::x9::x10::x11::x12::x13::x14::x15::x16::x17::x18::x19::x20::(.bool false)::x22::x23::x24::x25::x26::x27::x28::x29::x30::x31::x32::x33::x34::x35::x36::x37::x38::x39::x40::x41::x42::x43::x44::x45::x46::x47::x48::x49::x50::x51::x52::x53::x54::x55::x56::x57::x58::x59::x60::x61::x62::x63::x64::x65::x66::[]) H ((hSeq (gCode Try.prog call k (fAt Try.f11 [1,1,0,1])) (hSeq (gCode Try.prog call k (fAt Try.f11 [1,1,1])) (hFin Try.prog Try.f11))) .normal) =
  onV (gLoad Try.prog 35 x5 H) fun v1 =>
  onCall 0 call (.func (.func 50) #[] #[]) [v1] H fun v2 H3 =>
  onV ((oBin Try.prog .neq 27 v2 (.int .i64 0)).filter closed) fun v4 =>
  (f11_g4_9 call k v4 x3 x4 x5 x6 H3) := by
  rw [gOps_split 4 5, s11_6]
  refine onV_c fun v1 => ?_
  refine onCall_c fun v2 H3 => ?_
  refine onV_c fun v4 => ?_
  exact f11_g4_9_eq call k
theorem f11_g4_4_eq (call : Handle) (k : Nat) : gOps Try.prog 0 call (opsAt (fAt Try.f11 [1,1,0,0])) ((opsAt (fAt Try.f11 [1,1,0,0])).drop 4) (x0::x1::x2::x3::x4::x5::x6::x7::x8::x9::x10::x11::x12::x13::x14::x15::x16::x17::x18::x19::x20::x21::x22::x23::x24::x25::x26::x27::x28::x29::x30::x31::x32::x33::x34::x35::x36::x37::x38::x39::x40::x41::x42::x43::x44::x45::x46::x47::x48::x49::x50::x51::x52::x53::x54::x55::x56::x57::x58::x59::x60::x61::x62::x63::x64::x65::x66::[]) H ((hSeq (gCode Try.prog call k (fAt Try.f11 [1,1,0,1])) (hSeq (gCode Try.prog call k (fAt Try.f11 [1,1,1])) (hFin Try.prog Try.f11))) .normal) =
  f11_g4_4 call k x21 x3 x4 x5 x6 H := by
  cases x21 with
  | bool b => cases b with
    | true => exact f11_g4_4_true call k
    | false => exact f11_g4_4_false call k
  | _ => kernel_rfl
noncomputable def f11_r4 (call : Handle) (k : Nat) (x3 x4 x5 x6 : Value) (H : GH) : M (Value × GH) :=
  onV (gLoad Try.prog 35 x4 H) fun v1 =>
  onCall 0 call (.func (.func 50) #[] #[]) [v1] H fun v2 H3 =>
  onV ((oBin Try.prog .neq 27 v2 (.int .i64 0)).filter closed) fun v4 =>
  (f11_g4_4 call k v4 x3 x4 x5 x6 H3)
theorem f11_r4_eq (call : Handle) (k : Nat) : gCode Try.prog call k (fAt Try.f11 [1,1,0,0]) (x0::x1::x2::x3::x4::x5::x6::x7::x8::x9::x10::x11::x12::x13::x14::x15::x16::x17::x18::x19::x20::x21::x22::x23::x24::x25::x26::x27::x28::x29::x30::x31::x32::x33::x34::x35::x36::x37::x38::x39::x40::x41::x42::x43::x44::x45::x46::x47::x48::x49::x50::x51::x52::x53::x54::x55::x56::x57::x58::x59::x60::x61::x62::x63::x64::x65::x66::[]) H (hSeq (gCode Try.prog call k (fAt Try.f11 [1,1,0,1])) (hSeq (gCode Try.prog call k (fAt Try.f11 [1,1,1])) (hFin Try.prog Try.f11))) = f11_r4 call k x3 x4 x5 x6 H := by
  unfold f11_r4
  rw [n11_14]
  rw [gOps_split 0 4, s11_4]
  refine onV_c fun v1 => ?_
  refine onCall_c fun v2 H3 => ?_
  refine onV_c fun v4 => ?_
  exact f11_g4_4_eq call k
noncomputable def f11_sh (call : Handle) (k : Nat) (p0 p1 p2 : Value) (H : GH) : M (Value × GH) :=
  onV (gLoad Try.prog 24 (.pointer (some ⟨H.n, 0, none⟩)) (GH.push (GH.push (GH.push (GH.push H (.row (Value.cells p0).toList 24 false)) (.row (Value.cells p1).toList 35 false)) (.row (Value.cells p2).toList 35 false)) (.row [(.slice none 0 0), (.slice none 0 0)] 24 false))) fun v1 =>
  onCall 0 call (.func (.func 9) #[] #[]) [v1] (GH.push (GH.push (GH.push (GH.push H (.row (Value.cells p0).toList 24 false)) (.row (Value.cells p1).toList 35 false)) (.row (Value.cells p2).toList 35 false)) (.row [(.slice none 0 0), (.slice none 0 0)] 24 false)) fun v2 H3 =>
  onV ((oBin Try.prog .neq 27 v2 (.int .i64 0)).filter closed) fun v4 =>
  onBool (asB v4)
  (onH (gStore Try.prog 24 (.pointer (some ⟨(GH.push (GH.push (GH.push H (.row (Value.cells p0).toList 24 false)) (.row (Value.cells p1).toList 35 false)) (.row (Value.cells p2).toList 35 false)).n, 0, none⟩)) (.agg #[(.slice none 0 0), (.slice none 0 0)]) H3) fun H5 =>
  onV (gResL Try.prog H5 [((.pointer (some ⟨(GH.push (GH.push (GH.push H (.row (Value.cells p0).toList 24 false)) (.row (Value.cells p1).toList 35 false)) (.row (Value.cells p2).toList 35 false)).n, 0, none⟩)), some 24), (v2, none)]) fun v => some [(v, H5)])
  ((f11_r4 call k (.pointer (some ⟨H.n, 0, none⟩)) (.pointer (some ⟨(GH.push H (.row (Value.cells p0).toList 24 false)).n, 0, none⟩)) (.pointer (some ⟨(GH.push (GH.push H (.row (Value.cells p0).toList 24 false)) (.row (Value.cells p1).toList 35 false)).n, 0, none⟩)) (.pointer (some ⟨(GH.push (GH.push (GH.push H (.row (Value.cells p0).toList 24 false)) (.row (Value.cells p1).toList 35 false)) (.row (Value.cells p2).toList 35 false)).n, 0, none⟩)) H3))
theorem f11_run (call : Handle) (k : Nat) (p0 p1 p2 : Value) (H : GH) : gCode Try.prog call k (fAt Try.f11 []) (p0::p1::p2::undef::undef::undef::undef::undef::undef::undef::undef::undef::undef::undef::undef::undef::undef::undef::undef::undef::undef::undef::undef::undef::undef::undef::undef::undef::undef::undef::undef::undef::undef::undef::undef::undef::undef::undef::undef::undef::undef::undef::undef::undef::undef::undef::undef::undef::undef::undef::undef::undef::undef::undef::undef::undef::undef::undef::undef::undef::undef::undef::undef::undef::undef::undef::undef::[]) H (hFin Try.prog Try.f11) = f11_sh call k p0 p1 p2 H := by
  unfold f11_sh
  rw [n11_0]
  rw [n11_1]
  rw [s11_0]
  rw [hSeq_n]
  rw [n11_2]
  rw [n11_3]
  rw [n11_4]
  rw [s11_1]
  refine onV_c fun v1 => ?_
  refine onCall_c fun v2 H3 => ?_
  rw [hSeq_n]
  rw [n11_5]
  rw [n11_6]
  rw [s11_2]
  refine onV_c fun v4 => ?_
  rw [hSeq_n]
  rw [n11_7]
  refine onBool_cc rfl ?_ ?_
  · rw [n11_8]
    rw [n11_9]
    rw [s11_3]
    refine onH_c fun H5 => ?_
    rw [hSeq_n]
    rw [n11_10]
    rw [hSeq_r]
    exact fin11_ret
  · rw [n11_11]
    rw [hSeq_n]
    rw [n11_12]
    rw [n11_13]
    exact f11_r4_eq call k
theorem f11_eq (call : Handle) (k : Nat) (p0 p1 p2 : Value) (H : GH) : gFunc Try.prog call k Try.f11 [p0, p1, p2] H = f11_sh call k p0 p1 p2 H :=
  Eq.trans (by kernel_rfl) (f11_run call k p0 p1 p2 H)
end
section
variable {β : Type} {call : Handle} {k : Nat} {a : GA} {K : Kont β} {K' : GA → GH → M β}
variable {x0 x1 x2 x3 x4 x5 : Value}
variable {p0 : Value}
variable {H : GH}
theorem fin12_normal : hFin Try.prog Try.f12 .normal [x0, x1, x2, x3, x4, x5] H =
  some [(x2, H)] := by kernel_rfl
theorem fin12_ret : hFin Try.prog Try.f12 .ret [x0, x1, x2, x3, x4, x5] H =
  some [(x2, H)] := by kernel_rfl
theorem n12_0 : gCode Try.prog call k (fAt Try.f12 []) a H K = gCode Try.prog call k (fAt Try.f12 [0]) a H (hSeq (gCode Try.prog call k (fAt Try.f12 [1])) K) := at_seq (by kernel_rfl)
theorem n12_1 : gCode Try.prog call k (fAt Try.f12 [0]) a H K = gOps Try.prog 0 call (opsAt (fAt Try.f12 [0])) ((opsAt (fAt Try.f12 [0])).drop 0) a H (K .normal) := at_region (by kernel_rfl)
theorem n12_2 : gCode Try.prog call k (fAt Try.f12 [1]) a H K = gCode Try.prog call k (fAt Try.f12 [1,0]) a H (hSeq (gCode Try.prog call k (fAt Try.f12 [1,1])) K) := at_seq (by kernel_rfl)
theorem n12_3 : gCode Try.prog call k (fAt Try.f12 [1,0]) a H K = gOps Try.prog 0 call (opsAt (fAt Try.f12 [1,0])) ((opsAt (fAt Try.f12 [1,0])).drop 0) a H (K .normal) := at_region (by kernel_rfl)
theorem n12_4 : gCode Try.prog call k (fAt Try.f12 [1,1]) a H K = K .ret a H := at_ret (by kernel_rfl)
theorem s12_0 : gOps Try.prog 0 call (opsAt (fAt Try.f12 [0])) ((opsAt (fAt Try.f12 [0])).drop 0) [p0, undef, undef, undef, undef, undef] H K' =
  K' [p0, (.pointer (some ⟨H.n, 0, none⟩)), (.int .i64 0), undef, undef, undef] (GH.push H (.row (Value.cells p0).toList 24 false)) := by kernel_rfl
theorem s12_1 : gOps Try.prog 0 call (opsAt (fAt Try.f12 [1,0])) ((opsAt (fAt Try.f12 [1,0])).drop 0) [p0, (.pointer (some ⟨H.n, 0, none⟩)), (.int .i64 0), undef, undef, undef] (GH.push H (.row (Value.cells p0).toList 24 false)) K' =
  onV (gLoad Try.prog 24 (.pointer (some ⟨H.n, 0, none⟩)) (GH.push H (.row (Value.cells p0).toList 24 false))) fun v1 =>
  onCall 0 call (.func (.func 45) #[] #[]) [v1] (GH.push H (.row (Value.cells p0).toList 24 false)) fun v2 H3 =>
  onV (oLen Try.prog 26 v2) fun v4 =>
  K' [p0, (.pointer (some ⟨H.n, 0, none⟩)), v4, v1, v2, v4] H3 := by kernel_rfl
noncomputable def f12_sh (call : Handle) (k : Nat) (p0 : Value) (H : GH) : M (Value × GH) :=
  onV (gLoad Try.prog 24 (.pointer (some ⟨H.n, 0, none⟩)) (GH.push H (.row (Value.cells p0).toList 24 false))) fun v1 =>
  onCall 0 call (.func (.func 45) #[] #[]) [v1] (GH.push H (.row (Value.cells p0).toList 24 false)) fun v2 H3 =>
  onV (oLen Try.prog 26 v2) fun v4 =>
  some [(v4, H3)]
theorem f12_run (call : Handle) (k : Nat) (p0 : Value) (H : GH) : gCode Try.prog call k (fAt Try.f12 []) [p0, undef, undef, undef, undef, undef] H (hFin Try.prog Try.f12) = f12_sh call k p0 H := by
  unfold f12_sh
  rw [n12_0]
  rw [n12_1]
  rw [s12_0]
  rw [hSeq_n]
  rw [n12_2]
  rw [n12_3]
  rw [s12_1]
  refine onV_c fun v1 => ?_
  refine onCall_c fun v2 H3 => ?_
  refine onV_c fun v4 => ?_
  rw [hSeq_n]
  rw [n12_4]
  exact fin12_ret
theorem f12_eq (call : Handle) (k : Nat) (p0 : Value) (H : GH) : gFunc Try.prog call k Try.f12 [p0] H = f12_sh call k p0 H :=
  Eq.trans (by kernel_rfl) (f12_run call k p0 H)
end
end Go.Proofs.Ythicilkmjamefaa
