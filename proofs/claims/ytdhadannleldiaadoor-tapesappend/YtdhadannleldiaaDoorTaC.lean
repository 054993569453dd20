/- Tapes: the law's check sequence: the division of all bits. -/
import Derived.Test.YtdhadannleldiaaDoorTaA
import Derived.Test.YtdhadannleldiaaDoorGpShCall
namespace Go.Proofs.YtdhadannleldiaaDoor
open Go.Gh
set_option linter.unusedVariables false
set_option linter.unusedSimpArgs false

/-- A bit, as a number. -/
def bv (x : Bool) : Value := .int .i64 (x.toNat : Int)
def bitsL (N : Nat) (F : Nat → Bool) : List Value := (List.range N).map fun i => bv (F i)
theorem bitsL_len {N : Nat} {F : Nat → Bool} : (bitsL N F).length = N := by simp [bitsL]
theorem bitsL_at {N i : Nat} {F : Nat → Bool} (h : i < N) : (bitsL N F)[i]? = some (bv (F i)) := by simp [bitsL, h]
theorem bitsL_set {N i : Nat} {F : Nat → Bool} {x : Bool} : (bitsL N F).set i (bv x) = bitsL N fun j => if j = i then x else F j := by
  apply List.ext_getElem?
  intro j
  rw [List.getElem?_set]
  simp only [bitsL, List.length_map, List.length_range, List.getElem?_map, List.getElem?_range']
  by_cases hj : j < N
  · simp only [List.getElem?_range hj, Option.map_some]
    by_cases hi : i = j
    · subst hi; simp [hj]
    · simp [hi, Ne.symm hi]
  · have : (List.range N)[j]? = none := List.getElem?_eq_none (by simp; omega)
    simp only [this, Option.map_none]
    by_cases hi : i = j
    · subst hi; simp [hj]
    · simp [hi]
def BitsAt (H : GH) (b N : Nat) (F : Nat → Bool) : Prop := H.get b = some (.row (bitsL N F) 3 false)
section
variable {H H0 : GH} {b N i n c : Nat} {F : Nat → Bool}
theorem idx68 (h : i < n) : oIndexAddr Tryd.prog 68 (.slice (some ⟨b, 0, none⟩) n c) (.int .i64 (i : Int)) = some (.pointer (some ⟨b, i, none⟩)) := by
  unfold oIndexAddr
  simp only [u68]
  rw [if_pos ⟨by omega, by omega⟩, elemOk_size el3]
  simp only [Option.map_some, Int.toNat_natCast, Nat.mul_one]
  unfold Addr.add
  by_cases h0 : i = 0
  · simp [h0]
  · simp [h0]
theorem len68 {a : Option Addr} : oLen Tryd.prog 68 (.slice a n c) = some (.int .i64 n) := by unfold oLen; rw [u68]
theorem bit_ld (h : BitsAt H b N F) (hi : i < N) : gLoad Tryd.prog 3 (.pointer (some ⟨b, i, none⟩)) H = some (bv (F i)) := ldc h ld3 (bitsL_at hi)
theorem bit_st {x : Bool} (h : BitsAt H b N F) (hi : i < N) : ∃ H', gStore Tryd.prog 3 (.pointer (some ⟨b, i, none⟩)) (bv x) H = some H' ∧ BitsAt H' b N (fun j => if j = i then x else F j) ∧ (H0.n ≤ b → Ext H0 H → Ext H0 H') ∧ ∀ q, b ≠ q → H'.get q = H.get q := by
  have hs := store1 (P := Tryd.prog) (t := 3) (o := i) (v := bv x) h (gSize_ld ld3) rfl rfl (by rw [bitsL_len]; exact hi)
  rw [bitsL_set] at hs
  exact ⟨_, hs, GH.get_set_same h, fun hb hE => hE.set hb (GH.get_lt h) _, fun q hq => GH.get_set_other hq (GH.get_lt h)⟩
end
theorem xorB (x y : Bool) : (oBin Tryd.prog .xor 3 (bv x) (bv y)).filter closed = some (bv (x ^^ y)) := by cases x <;> cases y <;> kernel_rfl
theorem xorB1 (x : Bool) : (oBin Tryd.prog .xor 3 (bv x) (.int .i64 1)).filter closed = some (bv !x) := by cases x <;> kernel_rfl
theorem eqB0 (x : Bool) : (oBin Tryd.prog .eql 3 (bv x) (.int .i64 0)).filter closed = some (.bool !x) := by cases x <;> kernel_rfl
section
variable {c : Handle} {k' b b8 N : Nat} {H0 : GH} {Q : Value × GH → Prop}
/-- The bits, as a number. -/
theorem dv_l27 {F : Nat → Bool} {H : GH} {c1 m : Nat} (hN : N = m + 16) (hl : N ≤ 1000000) (hg : BitsAt H b N F) (hgo : Q (.int .i64 ((numB (fun j => F (m + j)) 16 : Nat) : Int), H)) :
    ∀ (r j : Nat), j ≤ 16 → 16 - j < r → Ev (f14_l27 c k' r (.slice (some ⟨b, 0, none⟩) N c1) (.int .i64 ((numB (fun j => F (m + j)) j : Nat) : Int)) (.int .i64 ((m + j : Nat) : Int)) H) Q := by
  intro r
  induction r with
  | zero => intro j _ h; omega
  | succ r ih =>
    intro j hj hr
    show Ev (f14_l27b c k' (f14_l27 c k' r) (.slice (some ⟨b, 0, none⟩) N c1) (.int .i64 ((numB (fun j => F (m + j)) j : Nat) : Int)) (.int .i64 ((m + j : Nat) : Int)) H) Q
    unfold f14_l27b
    simp only [len68, onV_n, bin_lss, asB_b, onBool_d]
    by_cases hlt : j < 16
    · rw [if_pos (by omega)]
      have hb := numB_lt (fun j => F (m + j)) j
      have hb2 : 2 ^ j ≤ 2 ^ 16 := Nat.pow_le_pow_right (by decide) (by omega)
      have hb3 : (2 : Nat) ^ 16 = 65536 := rfl
      have ht : (F (m + j)).toNat ≤ 1 := by cases F (m + j) <;> decide
      simp only [idx68 (show m + j < N by omega), bit_ld hg (show m + j < N by omega), onV_n, bin_mul, bv, bin_add]
      rw [Go.IntWalk.i64_in (2 * ((numB (fun j => F (m + j)) j : Nat) : Int)) (by omega), Go.IntWalk.i64_in _ (by omega), wrS (by omega)]
      have e : (2 * ((numB (fun j => F (m + j)) j : Nat) : Int) + (((F (m + j)).toNat : Nat) : Int)) = ((numB (fun j => F (m + j)) (j + 1) : Nat) : Int) := by
        show _ = ((2 * numB (fun j => F (m + j)) j + (F (m + j)).toNat : Nat) : Int)
        omega
      rw [e]
      exact ih (j + 1) (by omega) (by omega)
    · rw [if_neg (by omega)]
      have : j = 16 := by omega
      subst this
      exact Ev.mk hgo
/-- One row of the division. -/
theorem dv_l22 {sg : Sg3} {F : Nat → Bool} {H1 : GH} {c1 c2 i : Nat} (hl : N ≤ 1000000) (hi : i + 16 < N) (hb : H0.n ≤ b) (h8 : b ≠ b8) (hgo : ∀ H, Ext H0 H → BitsAt H b N (fun x => if i ≤ x ∧ x < i + 17 then (F x ^^ divisor (x - i)) else F x) → BitsAt H b8 17 divisor → Ev (sg (.slice (some ⟨b, 0, none⟩) N c1) (.slice (some ⟨b8, 0, none⟩) 17 c2) (.int .i64 ((i + 1 : Nat) : Int)) H) Q) :
    ∀ (r k : Nat) (H : GH), k ≤ 17 → 17 - k < r → Ext H0 H → BitsAt H b N (fun x => if i ≤ x ∧ x < i + k then (F x ^^ divisor (x - i)) else F x) → BitsAt H b8 17 divisor →
      Ev (f14_l22 c k' sg r (.slice (some ⟨b, 0, none⟩) N c1) (.slice (some ⟨b8, 0, none⟩) 17 c2) (.int .i64 (i : Int)) (.int .i64 (k : Int)) H) Q := by
  intro r
  induction r with
  | zero => intro k H _ h; omega
  | succ r ih =>
    intro k H hk hr hE hg hd
    show Ev (f14_l22b c k' sg (f14_l22 c k' sg r) (.slice (some ⟨b, 0, none⟩) N c1) (.slice (some ⟨b8, 0, none⟩) 17 c2) (.int .i64 (i : Int)) (.int .i64 (k : Int)) H) Q
    unfold f14_l22b
    simp only [bin_lss, onV_n, asB_b, onBool_d]
    by_cases hlt : k < 17
    · rw [if_pos (by omega)]
      unfold f14_r24
      have e1 : IntKind.wrap .i64 ((i : Int) + (k : Int)) = ((i + k : Nat) : Int) := by rw [Go.IntWalk.i64_in _ (by omega)]; omega
      simp only [bin_add, e1, onV_n, idx68 (show i + k < N by omega), bit_ld hg (show i + k < N by omega), idx68 (show k < 17 by omega), bit_ld hd (show k < 17 by omega), xorB]
      obtain ⟨H', s1, s2, s3, s4⟩ := bit_st (H0 := H0) (i := i + k) (x := (if i ≤ i + k ∧ i + k < i + k then (F (i + k) ^^ divisor (i + k - i)) else F (i + k)) ^^ divisor k) hg (by omega)
      simp only [s1, onH_s]
      rw [wrS (by omega)]
      refine ih (k + 1) H' (by omega) (by omega) (s3 hb hE) ?_ ((s4 _ h8).trans hd)
      have : (fun j => if j = i + k then (if i ≤ i + k ∧ i + k < i + k then (F (i + k) ^^ divisor (i + k - i)) else F (i + k)) ^^ divisor k else if i ≤ j ∧ j < i + k then (F j ^^ divisor (j - i)) else F j) = fun x => if i ≤ x ∧ x < i + (k + 1) then (F x ^^ divisor (x - i)) else F x := by
        funext x
        by_cases hx : x = i + k
        · subst hx
          rw [if_pos rfl, if_neg (by omega), if_pos (by omega), show i + k - i = k by omega]
        · rw [if_neg hx]
          by_cases hx2 : i ≤ x ∧ x < i + k
          · rw [if_pos hx2, if_pos (by omega)]
          · rw [if_neg hx2, if_neg (by omega)]
      rw [this] at s2
      exact s2
    · rw [if_neg (by omega)]
      have : k = 17 := by omega
      subst this
      simp only [bin_add, onV_n]
      rw [wrS (by omega)]
      exact hgo H hE hg hd
theorem dv_l18 {bs : List Nat} {c1 c2 : Nat} (hN : N = 8 * bs.length + 16) (hl : N ≤ 1000000) (hk : 100 ≤ k') (hb : H0.n ≤ b) (h8 : b ≠ b8) (hgo : ∀ H, Ext H0 H → BitsAt H b N (divN bs (8 * bs.length)) → Ev (f14_r25 c k' (.slice (some ⟨b, 0, none⟩) N c1) H) Q) :
    ∀ (r i : Nat) (H : GH), i ≤ 8 * bs.length → 8 * bs.length - i < r → Ext H0 H → BitsAt H b N (divN bs i) → BitsAt H b8 17 divisor →
      Ev (f14_l18 c k' r (.slice (some ⟨b, 0, none⟩) N c1) (.slice (some ⟨b8, 0, none⟩) 17 c2) (.int .i64 (i : Int)) H) Q := by
  intro r
  induction r with
  | zero => intro i H _ h; omega
  | succ r ih =>
    intro i H hi hr hE hg hd
    show Ev (f14_l18b c k' (f14_l18 c k' r) (.slice (some ⟨b, 0, none⟩) N c1) (.slice (some ⟨b8, 0, none⟩) 17 c2) (.int .i64 (i : Int)) H) Q
    unfold f14_l18b
    have e1 : IntKind.wrap .i64 ((i : Int) + 16) = ((i + 16 : Nat) : Int) := by rw [Go.IntWalk.i64_in _ (by omega)]; omega
    simp only [bin_add, e1, onV_n, len68, bin_lss, asB_b, onBool_d]
    by_cases hlt : i < 8 * bs.length
    · rw [if_pos (by omega)]
      simp only [idx68 (show i < N by omega), bit_ld hg (show i < N by omega), onV_n, eqB0, asB_b, onBool_i]
      cases hF : divN bs i i with
      | false =>
        simp only [Bool.not_false, if_true, bin_add, onV_n]
        rw [wrS (by omega)]
        refine ih (i + 1) H (by omega) (by omega) hE ?_ hd
        have : divN bs (i + 1) = divN bs i := by
          show divS (divN bs i) i = _
          unfold divS
          rw [hF]; rfl
        rw [this]; exact hg
      | true =>
        simp only [Bool.not_true, Bool.false_eq_true, if_false]
        refine dv_l22 (F := divN bs i) (H1 := H) hl (by omega) hb h8 (fun H' hE' hg' hd' => ih (i + 1) H' (by omega) (by omega) hE' ?_ hd') k' 0 H (by omega) (by omega) hE ?_ hd
        · have : divN bs (i + 1) = fun x => if i ≤ x ∧ x < i + 17 then (divN bs i x ^^ divisor (x - i)) else divN bs i x := by
            show divS (divN bs i) i = _
            unfold divS
            rw [hF]; rfl
          rw [this]; exact hg'
        · have : (fun x => if i ≤ x ∧ x < i + 0 then (divN bs i x ^^ divisor (x - i)) else divN bs i x) = divN bs i := by
            funext x
            rw [if_neg (by omega)]
          rw [this]; exact hg
    · rw [if_neg (by omega)]
      have : i = 8 * bs.length := by omega
      subst this
      exact hgo H hE hg
/-- The first sixteen are turned. -/
theorem dv_l13 {bs : List Nat} {c1 : Nat} (hN : N = 8 * bs.length + 16) (hl : N ≤ 1000000) (hb : H0.n ≤ b) (hgo : ∀ H, Ext H0 H → BitsAt H b N (div0 bs) → Ev (f14_r16 c k' (.slice (some ⟨b, 0, none⟩) N c1) H) Q) :
    ∀ (r i : Nat) (H : GH), i ≤ 16 → 16 - i < r → Ext H0 H → BitsAt H b N (fun j => if j < i then !msg bs j else msg bs j) →
      Ev (f14_l13 c k' r (.slice (some ⟨b, 0, none⟩) N c1) (.int .i64 (i : Int)) H) Q := by
  intro r
  induction r with
  | zero => intro i H _ h; omega
  | succ r ih =>
    intro i H hi hr hE hg
    show Ev (f14_l13b c k' (f14_l13 c k' r) (.slice (some ⟨b, 0, none⟩) N c1) (.int .i64 (i : Int)) H) Q
    unfold f14_l13b
    simp only [bin_lss, onV_n, asB_b, onBool_d]
    by_cases hlt : i < 16
    · rw [if_pos (by omega)]
      simp only [idx68 (show i < N by omega), bit_ld hg (show i < N by omega), onV_n, xorB1]
      obtain ⟨H', s1, s2, s3, s4⟩ := bit_st (H0 := H0) (i := i) (x := !(if i < i then !msg bs i else msg bs i)) hg (by omega)
      simp only [s1, onH_s, bin_add, onV_n]
      rw [wrS (by omega)]
      refine ih (i + 1) H' (by omega) (by omega) (s3 hb hE) ?_
      have : (fun j => if j = i then !(if i < i then !msg bs i else msg bs i) else if j < i then !msg bs j else msg bs j) = fun j => if j < i + 1 then !msg bs j else msg bs j := by
        funext x
        by_cases hx : x = i
        · subst hx
          rw [if_pos rfl, if_neg (by omega), if_pos (by omega)]
        · rw [if_neg hx]
          by_cases hx2 : x < i
          · rw [if_pos hx2, if_pos (by omega)]
          · rw [if_neg hx2, if_neg (by omega)]
      rw [this] at s2
      exact s2
    · rw [if_neg (by omega)]
      have : i = 16 := by omega
      subst this
      exact hgo H hE hg
end
theorem build68_17 {H : GH} : gBuildSlice Tryd.prog 68 17 [(0, (.int .i64 1)), (1, (.int .i64 0)), (2, (.int .i64 0)), (3, (.int .i64 0)), (4, (.int .i64 1)), (5, (.int .i64 0)), (6, (.int .i64 0)), (7, (.int .i64 0)), (8, (.int .i64 0)), (9, (.int .i64 0)), (10, (.int .i64 0)), (11, (.int .i64 1)), (12, (.int .i64 0)), (13, (.int .i64 0)), (14, (.int .i64 0)), (15, (.int .i64 0)), (16, (.int .i64 1))] H
    = some (.slice (some ⟨H.n, 0, none⟩) 17 17, H.push (.row (bitsL 17 divisor) 3 false)) := by kernel_rfl
theorem build68_1 {H : GH} {a : Int} : gBuildSlice Tryd.prog 68 1 [(0, .int .i64 a)] H = some (.slice (some ⟨H.n, 0, none⟩) 1 1, H.push (.row [.int .i64 a] 3 false)) := by kernel_rfl
/-- The numbers of a slice. -/
def tyBit : Ty Bool where
  sz := 1
  rep _ cs x := cs = [bv x]
  len h := by subst h; rfl
  one h := by subst h; rfl
  mono _ h := h
theorem flat_bit : tyBit.Flat := fun _ _ _ _ h => h
theorem cellsBit_eq {H : GH} {cs : List Value} {l : List Bool} (h : CellsR tyBit H cs l) : cs = l.map bv := by
  induction h with
  | nil => rfl
  | @cons c cs x xs h t ih => rw [show c = [bv x] from h, ih]; rfl
theorem conv3_67 (i : Int) : (oConvert Tryd.prog 3 67 (.int .i64 i)).filter closed = some (.int .u64 (IntKind.wrap .u64 i)) := by kernel_rfl
theorem shrK : ∀ k : Nat, k < 8 → ∀ x : Int, (oBin Tryd.prog .shr 3 (.int .i64 x) (.int .u64 (k : Int))).filter closed = some (.int .i64 (x.fdiv ((2 ^ k : Nat) : Int)))
  | 0, _ => fun x => by kernel_rfl
  | 1, _ => fun x => by kernel_rfl
  | 2, _ => fun x => by kernel_rfl
  | 3, _ => fun x => by kernel_rfl
  | 4, _ => fun x => by kernel_rfl
  | 5, _ => fun x => by kernel_rfl
  | 6, _ => fun x => by kernel_rfl
  | 7, _ => fun x => by kernel_rfl
  | k + 8, h => absurd h (by omega)
theorem and1' (a : Int) : (oBin Tryd.prog .and 3 (.int .i64 a) (.int .i64 1)).filter closed = some (.int .i64 (IntKind.wrap .i64 (((BitVec.ofInt 64 a) &&& (BitVec.ofInt 64 1)).toNat : Nat))) := by kernel_rfl
theorem and1 {a : Nat} (h : a < 256) : (oBin Tryd.prog .and 3 (.int .i64 (a : Int)) (.int .i64 1)).filter closed = some (.int .i64 ((a % 2 : Nat) : Int)) := by
  rw [and1', BitVec.ofInt_natCast, show (1 : Int) = ((1 : Nat) : Int) from rfl, BitVec.ofInt_natCast, BitVec.toNat_and, BitVec.toNat_ofNat, BitVec.toNat_ofNat, Nat.mod_eq_of_lt (show a < 2 ^ 64 by omega), Nat.mod_eq_of_lt (show 1 < 2 ^ 64 by decide), Nat.and_one_is_mod, Go.IntWalk.i64_in _ (by omega)]
theorem bitN (x k : Nat) : ((x / 2 ^ k % 2 : Nat) : Int) = ((x.testBit k).toNat : Int) := by
  rw [Nat.testBit_eq_decide_div_mod_eq]
  by_cases h : x / 2 ^ k % 2 = 1
  · simp [h]
  · have : x / 2 ^ k % 2 = 0 := by omega
    simp [this]
section
variable {c : Handle} {k' : Nat} {v : Value} {bs : List Nat} {H0 H1 : GH} {Q : Value × GH → Prop}
/-- A byte's bits are put behind the others. -/
theorem dv_l9 {sg : Sg3} {i x : Nat} (hx : x < 256) (hi : i ≤ 100000) (hm : ∀ j, j < 8 → msg bs (8 * i + j) = x.testBit (7 - j))
    (hgo : ∀ H w, Ext H0 H → Own tyBit 3 H0 H w ((List.range (8 * i + 8)).map (msg bs)) → Ev (onV ((oBin Tryd.prog .add 3 (.int .i64 (i : Int)) (.int .i64 1)).filter closed) fun v10 => sg v w v10 H) Q) :
    ∀ (r j : Nat) (H : GH) (w : Value), j ≤ 8 → 8 - j < r → Ext H0 H → Own tyBit 3 H0 H w ((List.range (8 * i + j)).map (msg bs)) →
      Ev (f14_l9 c k' sg r v w (.int .i64 (i : Int)) (.int .i64 (x : Int)) (.int .i64 (7 - (j : Int))) H) Q := by
  intro r
  induction r with
  | zero => intro j H w _ h; omega
  | succ r ih =>
    intro j H w hj hr hE ho
    show Ev (f14_l9b c k' sg (f14_l9 c k' sg r) v w (.int .i64 (i : Int)) (.int .i64 (x : Int)) (.int .i64 (7 - (j : Int))) H) Q
    unfold f14_l9b
    simp only [bin_geq, onV_n, asB_b, onBool_d]
    by_cases hlt : j < 8
    · rw [if_pos (by omega)]
      have e1 : IntKind.wrap .u64 (7 - (j : Int)) = ((7 - j : Nat) : Int) := by rw [Go.IntWalk.u64_in _ (by omega)]; omega
      have e2 : (x : Int).fdiv ((2 ^ (7 - j) : Nat) : Int) = ((x / 2 ^ (7 - j) : Nat) : Int) := fdivN x (Nat.two_pow_pos _)
      have e3 : x / 2 ^ (7 - j) < 256 := Nat.lt_of_le_of_lt (Nat.div_le_self _ _) hx
      simp only [conv3_67, e1, onV_n, shrK (7 - j) (by omega), e2, and1 e3, bitN, build68_1, onVH_s]
      have hE1 := hE.push' (.row [bv (x.testBit (7 - j))] 3 false)
      have hlen : ((List.range (8 * i + j)).map (msg bs)).length = 8 * i + j := by simp
      have ho1 : Own tyBit 3 H0 (H.push (.row [bv (x.testBit (7 - j))] 3 false)) w ((List.range (8 * i + j)).map (msg bs)) := ho.keep fun b hb => GH.get_push_old (ho.lt hb).2
      have hf : gFirst tyBit.sz [x.testBit (7 - j)].length (.slice (some ⟨H.n, 0, none⟩) 1 1) (H.push (.row [bv (x.testBit (7 - j))] 3 false)) = some [bv (x.testBit (7 - j))] := by
        unfold gFirst
        simp only [GH.get_push_new]
        rfl
      obtain ⟨w', H2, a1, a2, a3, a4, a5, a6⟩ := Own.append (P := Tryd.prog) (st := 68) (xt := 68) (e := 3) hE1 ho1 u68 u68 el3 ⟨_, _, rfl⟩ hf (.cons (c := [bv (x.testBit (7 - j))]) (cs := []) rfl .nil) (by rw [hlen]; simp; omega)
      have a1' : gAppend Tryd.prog 68 68 w (.slice (some ⟨H.n, 0, none⟩) 1 1) (H.push (.row [.int .i64 ((x.testBit (7 - j)).toNat : Int)] 3 false)) = some (w', H2) := a1
      simp only [a1', onVH_s, bin_sub, onV_n]
      have e4 : IntKind.wrap .i64 (7 - (j : Int) - 1) = 7 - ((j + 1 : Nat) : Int) := by rw [Go.IntWalk.i64_in _ (by omega)]; omega
      rw [e4]
      refine ih (j + 1) H2 w' (by omega) (by omega) a2 ?_
      rw [show 8 * i + (j + 1) = 8 * i + j + 1 by omega, List.range_succ, List.map_append, List.map_cons, List.map_nil, hm j hlt]
      exact a3
    · rw [if_neg (by omega)]
      have : j = 8 := by omega
      subst this
      exact hgo H w hE ho
theorem dv_l3 (hs : SlR tyB H0 v bs) (hb : ∀ x ∈ bs, x < 256) (hl : bs.length ≤ 100000 - 10) (hk : 100 ≤ k') (hgo : ∀ H w, Ext H0 H → Own tyBit 3 H0 H w ((List.range (8 * bs.length + 16)).map (msg bs)) → Ev (f14_r12 c k' w H) Q) :
    ∀ (r i : Nat) (H : GH) (w : Value), i ≤ bs.length + 2 → bs.length + 2 - i < r → Ext H0 H → Own tyBit 3 H0 H w ((List.range (8 * i)).map (msg bs)) →
      Ev (f14_l3 c k' r v w (.int .i64 (i : Int)) H) Q := by
  intro r
  induction r with
  | zero => intro i H w _ h; omega
  | succ r ih =>
    intro i H w hi hr hE ho
    show Ev (f14_l3b c k' (f14_l3 c k' r) v w (.int .i64 (i : Int)) H) Q
    unfold f14_l3b
    have e1 : IntKind.wrap .i64 ((bs.length : Int) + 2) = ((bs.length + 2 : Nat) : Int) := by rw [Go.IntWalk.i64_in _ (by omega)]; omega
    simp only [(hs.mono hE).oLen u24, onV_n, bin_add, e1, bin_lss, asB_b, onBool_d]
    by_cases h1 : i < bs.length + 2
    · rw [if_pos (by omega)]
      have go : ∀ x : Nat, x < 256 → (∀ j, j < 8 → msg bs (8 * i + j) = x.testBit (7 - j)) → Ev (f14_r8 c k' (f14_l3 c k' r) v w (.int .i64 (i : Int)) (.int .i64 (x : Int)) H) Q := fun x hx hm => by
        unfold f14_r8
        refine dv_l9 (H0 := H0) hx (by omega) hm (fun H' w' hE' ho' => ?_) k' 0 H w (by omega) (by omega) hE ho
        simp only [bin_add, onV_n]
        rw [wrS (by omega)]
        exact ih (i + 1) H' w' (by omega) (by omega) hE' (by rw [show 8 * (i + 1) = 8 * i + 8 by omega]; exact ho')
      by_cases h2 : i < bs.length
      · rw [if_pos (by omega)]
        obtain ⟨p, cs, e1, e2, e3⟩ := (hs.mono hE).at u24 (elemOk_size el5) (k := .i64) h2
        have e3 : cs = [.int .u8 (bs[i] : Int)] := e3
        subst e3
        have hx := hb _ (List.getElem_mem h2)
        simp only [e1, e2.load1 ld5, onV_n, conv5_3]
        rw [Go.IntWalk.i64_in _ (by omega)]
        refine go bs[i] hx fun j hj => ?_
        unfold msg
        rw [show (8 * i + j) / 8 = i by omega, show (8 * i + j) % 8 = j by omega, List.getD_eq_getElem?_getD, List.getElem?_eq_getElem h2]
        rfl
      · rw [if_neg (by omega)]
        refine go 0 (by decide) fun j hj => ?_
        unfold msg
        rw [show (8 * i + j) / 8 = i by omega, List.getD_eq_getElem?_getD, List.getElem?_eq_none (by omega)]
        simp
    · rw [if_neg (by omega)]
      have : i = bs.length + 2 := by omega
      subst this
      exact hgo H w hE (by rw [show 8 * (bs.length + 2) = 8 * bs.length + 16 by omega] at ho; exact ho)
end
theorem lawcheck_ok {k : Nat} {v : Value} {bs : List Nat} {H : GH} (hs : SlR tyB H v bs) (hb : ∀ x ∈ bs, x < 256) (hl : bs.length ≤ 100000 - 10) (hk : 8 * bs.length + 100 ≤ k) : Ev (C (k + 1) (.func (.func 14) #[] #[]) [v] H) fun r => Ext H r.2 ∧ r.1 = .int .i64 ((crc bs : Nat) : Int) := by
  rw [C_func T14, f14_eq]
  unfold f14_sh
  refine dv_l3 (H0 := H) hs hb hl (by omega) (fun H1 w hE ho => ?_) k 0 H (.slice none 0 0) (by omega) (by omega) (.refl _) Own.nil
  have hlen : ((List.range (8 * bs.length + 16)).map (msg bs)).length = 8 * bs.length + 16 := by simp
  rcases ho with ⟨_, h0⟩ | ⟨b, cs, rfl, h2, h3, h4⟩
  · rw [h0] at hlen; simp at hlen
  · rw [hlen]
    have hg : BitsAt H1 b (8 * bs.length + 16) (msg bs) := by
      unfold BitsAt bitsL
      rw [h3, cellsBit_eq h4, List.map_map]
      rfl
    unfold f14_r12
    refine dv_l13 (N := 8 * bs.length + 16) (H0 := H) rfl (by omega) h2 (fun H2 hE2 hg2 => ?_) k 0 H1 (by omega) (by omega) hE (by simpa using hg)
    unfold f14_r16
    simp only [build68_17, onVH_s]
    have hb2 := GH.get_lt hg2
    have hg3 : BitsAt (H2.push (.row (bitsL 17 divisor) 3 false)) b (8 * bs.length + 16) (divN bs 0) := (GH.get_push_old hb2).trans hg2
    refine dv_l18 (N := 8 * bs.length + 16) (b8 := H2.n) (H0 := H) rfl (by omega) (by omega) h2 (by omega) (fun H3 hE3 hg4 => ?_) k 0 _ (by omega) (by omega) (hE2.push' _) hg3 GH.get_push_new
    unfold f14_r25
    have e1 : IntKind.wrap .i64 (((8 * bs.length + 16 : Nat) : Int) - 16) = ((8 * bs.length + 0 : Nat) : Int) := by rw [Go.IntWalk.i64_in _ (by omega)]; omega
    simp only [len68, onV_n, bin_sub, e1]
    refine dv_l27 (m := 8 * bs.length) rfl (by omega) hg4 ⟨hE3, ?_⟩ k 0 (by omega) (by omega)
    show Value.int .i64 _ = _
    rw [div_crc hb]
end Go.Proofs.YtdhadannleldiaaDoor
/- Tapes: blocks, the program's and the law's. -/
namespace Go.Proofs.YtdhadannleldiaaDoor
open Go.Gh
set_option linter.unusedVariables false
set_option linter.unusedSimpArgs false

/-- What the check sequence is over. -/
def blkH (l : List OpD) : List Nat := l.length :: l.flatMap opB
def blk (l : List OpD) : List Nat := blkH l ++ [crc (blkH l) / 256, crc (blkH l) % 256]
theorem flatB_len : ∀ l : List OpD, (l.flatMap opB).length = 3 * l.length
  | [] => rfl
  | o :: l => by rw [List.flatMap_cons, List.length_append, flatB_len l]; simp [opB]; omega
theorem blkH_lt {l : List OpD} (ho : ∀ o ∈ l, OpOk o) (hl : l.length ≤ 32) : ∀ x ∈ blkH l, x < 256 := by
  intro x hx
  rcases List.mem_cons.1 hx with rfl | hx
  · omega
  · obtain ⟨o, h1, h2⟩ := List.mem_flatMap.1 hx
    exact opB_lt (ho o h1) x h2
theorem blkH_len (l : List OpD) : (blkH l).length = 3 * l.length + 1 := by unfold blkH; rw [List.length_cons, flatB_len]
theorem blk_len (l : List OpD) : (blk l).length = 3 * l.length + 3 := by unfold blk; rw [List.length_append, blkH_len]; rfl
theorem blk_lt {l : List OpD} (ho : ∀ o ∈ l, OpOk o) (hl : l.length ≤ 32) : ∀ x ∈ blk l, x < 256 := by
  intro x hx
  have hc := crc_lt _ (blkH_lt ho hl)
  rcases List.mem_append.1 hx with hx | hx
  · exact blkH_lt ho hl x hx
  · simp only [List.mem_cons, List.not_mem_nil, or_false] at hx
    rcases hx with rfl | rfl <;> omega
theorem newFirst {H : GH} (l : List Nat) (c : Nat) : gFirst tyB.sz l.length (.slice (some ⟨H.n, 0, none⟩) l.length c) (H.push (.row (l.map bv8) 5 false)) = some (l.map bv8) := by
  unfold gFirst
  simp only [GH.get_push_new]
  rw [if_pos (by simp [tyB]), List.drop_zero]
  rw [List.take_of_length_le (by simp [tyB])]
theorem op_at {H : GH} {v : Value} {xs : List OpD} (h : SlR tyOp H v xs) {k : IntKind} {i : Nat} (hi : i < xs.length) : ∃ p, oIndexAddr Tryd.prog 26 v (.int k i) = some p ∧ PtC H p (opC xs[i]) := by
  obtain ⟨p, cs, h1, h2, rfl⟩ := h.at u26 (elemOk_size el48) (k := k) hi
  exact ⟨p, h1, h2⟩
theorem op_ld {H : GH} {p : Value} {x : OpD} (h : PtC H p (opC x)) : gLoad Tryd.prog 48 p H = some (opV x) := h.loadA ld48
section
variable {k k' : Nat} {v : Value} {l : List OpD} {H0 : GH} {Q : Value × GH → Prop}
theorem bl_7 (hk : 100 ≤ k) (ho : ∀ o ∈ l, OpOk o) (hl : l.length ≤ 32) {H : GH} {w : Value} (hE : Ext H0 H) (hw : Cl tyB 5 H0 H w (blkH l)) (hgo : ∀ w' H', Ext H0 H' → Cl tyB 5 H0 H' w' (blk l) → Q (w', H')) :
    Ev (f20_r7 (C (k + 1)) k' w H) Q := by
  unfold f20_r7
  have hlen := blkH_len l
  have hc := crc_lt _ (blkH_lt ho hl)
  refine Ev.call0 (check16_ok (k := k) (by omega) hw.slr (blkH_lt ho hl) (by omega) (by omega)) fun u H2 hu => ?_
  injection hu with h1 h2
  have h2 := h2.symm
  subst h1; subst h2
  have e1 : ((crc (blkH l) : Nat) : Int).fdiv 256 = ((crc (blkH l) / 256 : Nat) : Int) := fdivN _ (b := 256) (by decide)
  have e2 : IntKind.wrap .u8 ((crc (blkH l) / 256 : Nat) : Int) = ((crc (blkH l) / 256 : Nat) : Int) := Go.IntWalk.u8_in _ (by omega)
  have e3 : IntKind.wrap .u8 ((crc (blkH l) : Nat) : Int) = ((crc (blkH l) % 256 : Nat) : Int) := by rw [IntKind.wrap_u8]; omega
  simp only [shr8, onV_n, e1, conv40_5, e2, e3, build24_2, onVH_s]
  have hE1 := Ext.push H (.row ([crc (blkH l) / 256, crc (blkH l) % 256].map bv8) 5 false)
  obtain ⟨w', H3, a1, a2, a3, a4⟩ := (hw.ext hE1).app (P := Tryd.prog) (t := 24) (xt := 24) flat_b u24 u24 el5 (ys := [crc (blkH l) / 256, crc (blkH l) % 256]) ⟨_, _, rfl⟩ (newFirst [crc (blkH l) / 256, crc (blkH l) % 256] 2) (cellsB _) (by simp) (by simp; omega) (hE.trans hE1)
  have a1' : gAppend Tryd.prog 24 24 w (.slice (some ⟨H.n, 0, none⟩) 2 2) (H.push (.row [.int .u8 ((crc (blkH l) / 256 : Nat) : Int), .int .u8 ((crc (blkH l) % 256 : Nat) : Int)] 5 false)) = some (w', H3) := a1
  simp only [a1', onVH_s]
  exact Ev.mk (hgo w' H3 a2 a3)
theorem bl_l3 (hk : 100 ≤ k) (hs : SlR tyOp H0 v l) (ho : ∀ o ∈ l, OpOk o) (hl : l.length ≤ 32) (hgo : ∀ w' H', Ext H0 H' → Cl tyB 5 H0 H' w' (blk l) → Q (w', H')) :
    ∀ (r i : Nat) (H : GH) (w : Value), i ≤ l.length → l.length - i < r → Ext H0 H → Cl tyB 5 H0 H w (l.length :: (l.take i).flatMap opB) → Ev (f20_l3 (C (k + 1)) k' r w v (.int .i64 l.length) (.int .i64 (i : Int)) H) Q := by
  intro r
  induction r with
  | zero => intro i H w _ h; omega
  | succ r ih =>
    intro i H w hi hr hE hw
    show Ev (f20_l3b (C (k + 1)) k' (f20_l3 (C (k + 1)) k' r) w v (.int .i64 l.length) (.int .i64 (i : Int)) H) Q
    unfold f20_l3b
    simp only [bin_lss, onV_n, asB_b, onBool_d]
    by_cases hlt : i < l.length
    · rw [if_pos (by omega)]
      obtain ⟨p, e1, e2⟩ := op_at (hs.mono hE) (k := .i64) hlt
      obtain ⟨H1, f1, f2, f3, f4⟩ := box (P := Tryd.prog) (t := 48) (H := H) (v := opV l[i]) (cs := opC l[i]) (row := [(.int .u8 0), (.int .u8 0), (.int .u8 0), (.int .i64 0), (.int .u8 0), (.int .i64 0)]) (e := 48) (gSize_ld ld48) rfl rfl rfl
      simp only [e1, onV_n, op_ld e2, f1, onH_s, op_ld (PtC.of f3)]
      refine Ev.call0 (encode_ok (k := k) (ho _ (List.getElem_mem hlt))) fun u H2 hu => ?_
      obtain ⟨hE2, hu⟩ := hu
      have hE2 : Ext H1 H2 := hE2
      have hu : SlR tyB H2 u (opB l[i]) := hu
      have hE02 := (hE.trans f2).trans hE2
      obtain ⟨new, hf, hnc⟩ := hu.first
      have hln : (l.length :: (l.take i).flatMap opB).length = 1 + 3 * i := by
        rw [List.length_cons, flatB_len, List.length_take]; omega
      obtain ⟨w', H3, a1, a2, a3, a4⟩ := ((hw.ext f2).ext hE2).app (P := Tryd.prog) (t := 24) (xt := 24) flat_b u24 u24 el5 (ys := opB l[i]) hu.val hf hnc (by simp [opB]) (by rw [hln]; simp [opB]; omega) hE02
      simp only [a1, onVH_s, bin_add, onV_n]
      rw [wrS (by omega)]
      refine ih (i + 1) H3 w' (by omega) (by omega) a2 ?_
      rw [List.take_succ_eq_append_getElem hlt, List.flatMap_append, List.flatMap_cons, List.flatMap_nil, List.append_nil]
      exact a3
    · rw [if_neg (by omega)]
      rw [List.take_of_length_le (by omega)] at hw
      exact bl_7 hk ho hl hE hw hgo
theorem block_ok {H : GH} (hk : 100 ≤ k) (hs : SlR tyOp H v l) (ho : ∀ o ∈ l, OpOk o) (hl : l.length ≤ 32) : Ev (C (k + 2) (.func (.func 20) #[] #[]) [v] H) fun r => Ext H r.2 ∧ Cl tyB 5 H r.2 r.1 (blk l) := by
  rw [C_func T20, f20_eq]
  unfold f20_sh
  have e1 : IntKind.wrap .u8 (l.length : Int) = (l.length : Int) := Go.IntWalk.u8_in _ (by omega)
  simp only [hs.oLen u26, onV_n, conv3_5, e1, build24_1, onVH_s]
  exact bl_l3 (H0 := H) hk hs ho hl (fun w' H' a b => ⟨a, b⟩) (k + 1) 0 _ _ (by omega) (by omega) (Ext.push _ _) (.inr ⟨H.n, 1, [bv8 l.length], rfl, Nat.le_refl _, GH.get_push_new, cellsB [l.length], .inr ⟨by unfold loose; omega, rfl⟩⟩)
theorem quo256 (i : Int) : (oBin Tryd.prog .quo 3 (.int .i64 i) (.int .i64 256)).filter closed = some (.int .i64 (IntKind.wrap .i64 (i.tdiv 256))) := by kernel_rfl
theorem rem256 (i : Int) : (oBin Tryd.prog .rem 3 (.int .i64 i) (.int .i64 256)).filter closed = some (.int .i64 (i.tmod 256)) := by kernel_rfl
theorem lb_6 (hk : 1000 ≤ k) (ho : ∀ o ∈ l, OpOk o) (hl : l.length ≤ 32) {H : GH} {w : Value} (hE : Ext H0 H) (hw : Cl tyB 5 H0 H w (blkH l)) (hgo : ∀ w' H', Ext H0 H' → Cl tyB 5 H0 H' w' (blk l) → Q (w', H')) :
    Ev (f22_r6 (C (k + 1)) k' w H) Q := by
  unfold f22_r6
  have hlen := blkH_len l
  have hc := crc_lt _ (blkH_lt ho hl)
  refine Ev.call0 (lawcheck_ok (k := k) hw.slr (blkH_lt ho hl) (by omega) (by omega)) fun u H2 hu => ?_
  obtain ⟨hE2, hu⟩ := hu
  have hE2 : Ext H H2 := hE2
  have hu : u = .int .i64 ((crc (blkH l) : Nat) : Int) := hu
  subst hu
  have e0 : ((crc (blkH l) : Nat) : Int).tdiv 256 = ((crc (blkH l) / 256 : Nat) : Int) := by rw [Int.tdiv_eq_ediv_of_nonneg (by omega)]; omega
  have e1 : IntKind.wrap .i64 ((crc (blkH l) / 256 : Nat) : Int) = ((crc (blkH l) / 256 : Nat) : Int) := Go.IntWalk.i64_in _ (by omega)
  have e2 : IntKind.wrap .u8 ((crc (blkH l) / 256 : Nat) : Int) = ((crc (blkH l) / 256 : Nat) : Int) := Go.IntWalk.u8_in _ (by omega)
  have e3 : ((crc (blkH l) : Nat) : Int).tmod 256 = ((crc (blkH l) % 256 : Nat) : Int) := by rw [Int.tmod_eq_emod_of_nonneg (by omega)]; omega
  have e4 : IntKind.wrap .u8 ((crc (blkH l) % 256 : Nat) : Int) = ((crc (blkH l) % 256 : Nat) : Int) := Go.IntWalk.u8_in _ (by omega)
  simp only [quo256, onV_n, e0, e1, conv3_5, e2, rem256, e3, e4, build24_2, onVH_s]
  have hE1 := Ext.push H2 (.row ([crc (blkH l) / 256, crc (blkH l) % 256].map bv8) 5 false)
  obtain ⟨w', H3, a1, a2, a3, a4⟩ := ((hw.ext hE2).ext hE1).app (P := Tryd.prog) (t := 24) (xt := 24) flat_b u24 u24 el5 (ys := [crc (blkH l) / 256, crc (blkH l) % 256]) ⟨_, _, rfl⟩ (newFirst [crc (blkH l) / 256, crc (blkH l) % 256] 2) (cellsB _) (by simp) (by simp; omega) ((hE.trans hE2).trans hE1)
  have a1' : gAppend Tryd.prog 24 24 w (.slice (some ⟨H2.n, 0, none⟩) 2 2) (H2.push (.row [.int .u8 ((crc (blkH l) / 256 : Nat) : Int), .int .u8 ((crc (blkH l) % 256 : Nat) : Int)] 5 false)) = some (w', H3) := a1
  simp only [a1', onVH_s]
  exact Ev.mk (hgo w' H3 a2 a3)
theorem lb_l3 (hk : 1000 ≤ k) (hs : SlR tyOp H0 v l) (ho : ∀ o ∈ l, OpOk o) (hl : l.length ≤ 32) (hgo : ∀ w' H', Ext H0 H' → Cl tyB 5 H0 H' w' (blk l) → Q (w', H')) :
    ∀ (r i : Nat) (H : GH) (w : Value), i ≤ l.length → l.length - i < r → Ext H0 H → Cl tyB 5 H0 H w (l.length :: (l.take i).flatMap opB) → Ev (f22_l3 (C (k + 1)) k' r v w (.int .i64 (i : Int)) H) Q := by
  intro r
  induction r with
  | zero => intro i H w _ h; omega
  | succ r ih =>
    intro i H w hi hr hE hw
    show Ev (f22_l3b (C (k + 1)) k' (f22_l3 (C (k + 1)) k' r) v w (.int .i64 (i : Int)) H) Q
    unfold f22_l3b
    simp only [(hs.mono hE).oLen u26, bin_lss, onV_n, asB_b, onBool_d]
    by_cases hlt : i < l.length
    · rw [if_pos (by omega)]
      obtain ⟨p, e1, e2⟩ := op_at (hs.mono hE) (k := .i64) hlt
      simp only [e1, onV_n, op_ld e2]
      refine Ev.call0 (encoded_ok (k := k) (ho _ (List.getElem_mem hlt))) fun u H2 hu => ?_
      obtain ⟨hE2, hu⟩ := hu
      have hE2 : Ext H H2 := hE2
      have hu : SlR tyB H2 u (opB l[i]) := hu
      have hE02 := hE.trans hE2
      obtain ⟨new, hf, hnc⟩ := hu.first
      have hln : (l.length :: (l.take i).flatMap opB).length = 1 + 3 * i := by
        rw [List.length_cons, flatB_len, List.length_take]; omega
      obtain ⟨w', H3, a1, a2, a3, a4⟩ := (hw.ext hE2).app (P := Tryd.prog) (t := 24) (xt := 24) flat_b u24 u24 el5 (ys := opB l[i]) hu.val hf hnc (by simp [opB]) (by rw [hln]; simp [opB]; omega) hE02
      simp only [a1, onVH_s, bin_add, onV_n]
      rw [wrS (by omega)]
      refine ih (i + 1) H3 w' (by omega) (by omega) a2 ?_
      rw [List.take_succ_eq_append_getElem hlt, List.flatMap_append, List.flatMap_cons, List.flatMap_nil, List.append_nil]
      exact a3
    · rw [if_neg (by omega)]
      rw [List.take_of_length_le (by omega)] at hw
      exact lb_6 hk ho hl hE hw hgo
theorem lawblock_ok {H : GH} (hk : 1000 ≤ k) (hs : SlR tyOp H v l) (ho : ∀ o ∈ l, OpOk o) (hl : l.length ≤ 32) : Ev (C (k + 2) (.func (.func 22) #[] #[]) [v] H) fun r => Ext H r.2 ∧ Cl tyB 5 H r.2 r.1 (blk l) := by
  rw [C_func T22, f22_eq]
  unfold f22_sh
  have e1 : IntKind.wrap .u8 (l.length : Int) = (l.length : Int) := Go.IntWalk.u8_in _ (by omega)
  simp only [hs.oLen u26, onV_n, conv3_5, e1, build24_1, onVH_s]
  exact lb_l3 (H0 := H) hk hs ho hl (fun w' H' a b => ⟨a, b⟩) (k + 1) 0 _ _ (by omega) (by omega) (Ext.push _ _) (.inr ⟨H.n, 1, [bv8 l.length], rfl, Nat.le_refl _, GH.get_push_new, cellsB [l.length], .inr ⟨by unfold loose; omega, rfl⟩⟩)
end
end Go.Proofs.YtdhadannleldiaaDoor
