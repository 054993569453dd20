/- Check sequences: the register that takes in a bit at a time, and the division of all bits, come to the same. Plain, with no program in sight. -/
import Derived.KernelRfl
namespace Go.Gh
set_option linter.unusedVariables false
set_option linter.unusedSimpArgs false

/-- One bit. -/
def crcB (s : Nat) : Nat := ((2 * s) % 65536) ^^^ ((s / 32768) * 4129)
def crcBs : Nat → Nat → Nat
  | 0, s => s
  | k + 1, s => crcB (crcBs k s)
/-- One byte. -/
def crcY (s x : Nat) : Nat := crcBs 8 (s ^^^ (x * 256))
def crc (b : List Nat) : Nat := b.foldl crcY 65535
/-- The message's bits, and nothing behind it. -/
def msg (b : List Nat) (i : Nat) : Bool := (b.getD (i / 8) 0).testBit (7 - i % 8)
def divisor (k : Nat) : Bool := k == 0 || k == 4 || k == 11 || k == 16
def div0 (b : List Nat) (i : Nat) : Bool := if i < 16 then !msg b i else msg b i
def divS (F : Nat → Bool) (i : Nat) : Nat → Bool := if F i then fun x => if i ≤ x ∧ x < i + 17 then (F x ^^ divisor (x - i)) else F x else F
def divN (b : List Nat) : Nat → Nat → Bool
  | 0 => div0 b
  | i + 1 => divS (divN b i) i

theorem top_bit {s : Nat} (h : s < 65536) : s / 32768 = (s.testBit 15).toNat := by
  rw [Nat.testBit_eq_decide_div_mod_eq]
  by_cases h1 : s / 32768 = 1
  · simp [h1]
  · have : s / 32768 = 0 := by omega
    simp [this]
theorem crcB_lt {s : Nat} (h : s < 65536) : crcB s < 65536 := by
  unfold crcB
  refine Nat.xor_lt_two_pow (n := 16) (Nat.mod_lt _ (by decide)) ?_
  have : s / 32768 ≤ 1 := by omega
  have := Nat.mul_le_mul_right 4129 this
  omega
theorem crcB_bit {s p : Nat} (h : s < 65536) (hp : p < 16) : (crcB s).testBit p = ((decide (1 ≤ p) && s.testBit (p - 1)) ^^ (s.testBit 15 && (4129 : Nat).testBit p)) := by
  unfold crcB
  rw [Nat.testBit_xor, show (65536 : Nat) = 2 ^ 16 from rfl, Nat.testBit_mod_two_pow, top_bit h]
  have e1 : (2 * s).testBit p = (decide (1 ≤ p) && s.testBit (p - 1)) := by
    cases p with
    | zero => simp [Nat.testBit_zero]
    | succ p => rw [Nat.mul_comm, Nat.testBit_succ]; simp
  rw [e1]
  have e2 : ((s.testBit 15).toNat * 4129).testBit p = (s.testBit 15 && (4129 : Nat).testBit p) := by
    cases s.testBit 15 <;> simp
  rw [e2]
  simp [hp]
theorem poly_bit {j : Nat} (h : j < 16) : (4129 : Nat).testBit (15 - j) = divisor (j + 1) := by
  have : ∀ j, j < 16 → (4129 : Nat).testBit (15 - j) = divisor (j + 1) := by decide
  exact this j h
/-- While a byte is taken in: k of its bits are. -/
def Mid (b : List Nat) (i k s : Nat) : Prop := s < 65536 ∧ (∀ j, j < 16 → divN b i (i + j) = (s.testBit (15 - j) ^^ (!decide (j < 8 - k) && msg b (i + j)))) ∧ ∀ j, 16 ≤ j → divN b i (i + j) = msg b (i + j)
theorem Mid.step {b : List Nat} {i k s : Nat} (hk : k < 8) (h : Mid b i k s) : Mid b (i + 1) (k + 1) (crcB s) := by
  obtain ⟨h1, h2, h3⟩ := h
  have h0 := h2 0 (by decide)
  rw [decide_eq_true (by omega : 0 < 8 - k)] at h0
  simp only [Nat.add_zero, Nat.sub_zero, Bool.not_true, Bool.false_and, Bool.xor_false] at h0
  refine ⟨crcB_lt h1, fun j hj => ?_, fun j hj => ?_⟩
  · rw [crcB_bit h1 (by omega), poly_bit hj]
    have hd : divN b (i + 1) (i + 1 + j) = (divN b i (i + (j + 1)) ^^ (s.testBit 15 && divisor (j + 1))) := by
      show divS (divN b i) i (i + 1 + j) = _
      rw [show i + 1 + j = i + (j + 1) by omega]
      unfold divS
      rw [h0]
      cases s.testBit 15 with
      | false => simp
      | true =>
        simp only [if_true]
        rw [if_pos (by omega), show i + (j + 1) - i = j + 1 by omega]
        simp
    rw [hd, show i + 1 + j = i + (j + 1) by omega]
    by_cases hj15 : j = 15
    · subst hj15
      rw [h3 16 (by omega)]
      have e : ¬ 15 < 8 - (k + 1) := by omega
      rw [decide_eq_false e, decide_eq_false (show ¬ 1 ≤ 15 - 15 by omega)]
      simp only [Nat.reduceAdd]
      cases msg b (i + 16) <;> cases s.testBit 15 <;> cases divisor 16 <;> rfl
    · rw [h2 (j + 1) (by omega), show 15 - (j + 1) = 14 - j by omega, show 15 - j - 1 = 14 - j by omega]
      have e1 : decide (1 ≤ 15 - j) = true := decide_eq_true (by omega)
      have e2 : decide (j + 1 < 8 - k) = decide (j < 8 - (k + 1)) := by
        apply Bool.eq_iff_iff.2
        simp only [decide_eq_true_eq]
        omega
      rw [e1, e2]
      cases s.testBit (14 - j) <;> cases s.testBit 15 <;> cases divisor (j + 1) <;> cases decide (j < 8 - (k + 1)) <;> cases msg b (i + (j + 1)) <;> rfl
  · show divS (divN b i) i (i + 1 + j) = _
    rw [show i + 1 + j = i + (j + 1) by omega]
    unfold divS
    split
    · show (if i ≤ i + (j + 1) ∧ i + (j + 1) < i + 17 then _ else divN b i (i + (j + 1))) = _
      rw [if_neg (by omega)]; exact h3 (j + 1) (by omega)
    · exact h3 (j + 1) (by omega)
theorem Mid.steps {b : List Nat} {i s : Nat} (h : Mid b i 0 s) : ∀ k, k ≤ 8 → Mid b (i + k) k (crcBs k s)
  | 0, _ => h
  | k + 1, hk => (Mid.steps h k (by omega)).step (by omega)
theorem bit_hi {s p : Nat} (h : s < 65536) (hp : 16 ≤ p) : s.testBit p = false := Nat.testBit_lt_two_pow (Nat.lt_of_lt_of_le h (Nat.pow_le_pow_right (n := 2) (by decide) hp))
/-- A byte is taken in. -/
theorem byte_in {b : List Nat} {m s : Nat} (hb : ∀ x ∈ b, x < 256) (hs : s < 65536) (h2 : ∀ j, j < 16 → divN b (8 * m) (8 * m + j) = (s.testBit (15 - j) ^^ msg b (8 * m + j))) (h3 : ∀ j, 16 ≤ j → divN b (8 * m) (8 * m + j) = msg b (8 * m + j)) :
    Mid b (8 * m) 0 (s ^^^ (b.getD m 0 * 256)) := by
  have hx : b.getD m 0 < 256 := by
    rw [List.getD_eq_getElem?_getD]
    cases hh : b[m]? with
    | none => simp
    | some x => exact hb x (List.mem_of_getElem? hh)
  refine ⟨Nat.xor_lt_two_pow (n := 16) hs (by omega), fun j hj => ?_, h3⟩
  rw [h2 j hj, Nat.testBit_xor, show (256 : Nat) = 2 ^ 8 from rfl, Nat.testBit_mul_two_pow]
  by_cases h8 : j < 8
  · have e1 : msg b (8 * m + j) = (b.getD m 0).testBit (7 - j) := by
      unfold msg
      rw [show (8 * m + j) / 8 = m by omega, show (8 * m + j) % 8 = j by omega]
    rw [e1, decide_eq_true (show 8 ≤ 15 - j by omega), show 15 - j - 8 = 7 - j by omega, decide_eq_true (show j < 8 - 0 by omega)]
    simp
  · rw [decide_eq_false (show ¬ 8 ≤ 15 - j by omega), decide_eq_false (show ¬ j < 8 - 0 by omega)]
    simp
theorem crcBs_lt {s : Nat} (h : s < 65536) : ∀ k, crcBs k s < 65536
  | 0 => h
  | k + 1 => crcB_lt (crcBs_lt h k)
theorem div_bytes {b : List Nat} (hb : ∀ x ∈ b, x < 256) : ∀ m, m ≤ b.length → (b.take m).foldl crcY 65535 < 65536 ∧ (∀ j, j < 16 → divN b (8 * m) (8 * m + j) = (((b.take m).foldl crcY 65535).testBit (15 - j) ^^ msg b (8 * m + j))) ∧ ∀ j, 16 ≤ j → divN b (8 * m) (8 * m + j) = msg b (8 * m + j)
  | 0, _ => by
    refine ⟨show (65535 : Nat) < 65536 by decide, fun j hj => ?_, fun j hj => ?_⟩
    · have : ∀ j, j < 16 → (65535 : Nat).testBit (15 - j) = true := by decide
      show div0 b (0 + j) = ((65535 : Nat).testBit (15 - j) ^^ msg b (0 + j))
      rw [this j hj]
      unfold div0
      rw [if_pos (by omega)]
      simp
    · show div0 b (0 + j) = _
      unfold div0
      rw [if_neg (by omega)]
  | m + 1, hm => by
    obtain ⟨h1, h2, h3⟩ := div_bytes hb m (by omega)
    have h := (byte_in hb h1 h2 h3).steps 8 (Nat.le_refl _)
    have e : (b.take (m + 1)).foldl crcY 65535 = crcBs 8 ((b.take m).foldl crcY 65535 ^^^ (b.getD m 0 * 256)) := by
      rw [List.take_succ_eq_append_getElem (by omega), List.foldl_append]
      simp only [List.foldl_cons, List.foldl_nil]
      rw [List.getD_eq_getElem?_getD, List.getElem?_eq_getElem (by omega)]
      rfl
    rw [e]
    obtain ⟨g1, g2, g3⟩ := h
    refine ⟨g1, fun j hj => ?_, fun j hj => ?_⟩
    · have := g2 j hj
      rw [show 8 * (m + 1) = 8 * m + 8 by omega]
      simpa using this
    · have := g3 j hj
      rw [show 8 * (m + 1) = 8 * m + 8 by omega]
      exact this
/-- A number from its bits, the greatest first. -/
def numB (f : Nat → Bool) : Nat → Nat
  | 0 => 0
  | n + 1 => 2 * numB f n + (f n).toNat
theorem numB_lt (f : Nat → Bool) : ∀ n, numB f n < 2 ^ n
  | 0 => show (0 : Nat) < 1 by decide
  | n + 1 => by
    have := numB_lt f n
    have hb : (f n).toNat ≤ 1 := by cases f n <;> decide
    show 2 * numB f n + (f n).toNat < _
    rw [Nat.pow_succ]; omega
theorem numB_bit (f : Nat → Bool) : ∀ n p, p < n → (numB f n).testBit p = f (n - 1 - p)
  | 0, _, h => by omega
  | n + 1, p, h => by
    show (2 * numB f n + (f n).toNat).testBit p = _
    cases p with
    | zero =>
      rw [Nat.testBit_zero]
      show _ = f (n + 1 - 1 - 0)
      simp only [Nat.add_sub_cancel, Nat.sub_zero]
      cases f n <;> simp
    | succ p =>
      rw [Nat.testBit_succ]
      have : (2 * numB f n + (f n).toNat) / 2 = numB f n := by cases f n <;> simp <;> omega
      rw [this, numB_bit f n p (by omega)]
      congr 1
      omega
/-- THE LAW: the remainder of the division is the register. -/
theorem div_crc {b : List Nat} (hb : ∀ x ∈ b, x < 256) : numB (fun j => divN b (8 * b.length) (8 * b.length + j)) 16 = crc b := by
  obtain ⟨h1, h2, h3⟩ := div_bytes hb b.length (Nat.le_refl _)
  rw [List.take_of_length_le (Nat.le_refl _)] at h1 h2
  refine Nat.eq_of_testBit_eq fun p => ?_
  rcases Nat.lt_or_ge p 16 with hp | hp
  · rw [numB_bit _ _ _ hp]
    have := h2 (15 - p) (by omega)
    have hm : msg b (8 * b.length + (15 - p)) = false := by
      unfold msg
      rw [List.getD_eq_getElem?_getD, List.getElem?_eq_none (by omega)]
      simp
    rw [hm, Bool.xor_false, show 15 - (15 - p) = p by omega] at this
    exact this
  · rw [bit_hi (numB_lt _ 16) hp]
    exact (bit_hi h1 hp).symm
theorem crc_lt (b : List Nat) (hb : ∀ x ∈ b, x < 256) : crc b < 65536 := by
  have := (div_bytes hb b.length (Nat.le_refl _)).1
  rwa [List.take_of_length_le (Nat.le_refl _)] at this
end Go.Gh
