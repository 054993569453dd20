/- The ghost machine: how data lie in a heap, and what operations on slices come to. -/
import Derived.Test.YthicilkmjamefaaGmLogic
namespace Go.Gh
set_option linter.unusedVariables false
set_option linter.unusedSimpArgs false

/-- How data of a kind lie in cells. -/
structure Ty (α : Type) where
  sz : Nat
  rep : GH → List Value → α → Prop
  len : ∀ {H : GH} {cs : List Value} {x : α}, rep H cs x → cs.length = sz
  one : ∀ {H : GH} {cs : List Value} {x : α}, rep H cs x → cs.all oneC = true
  mono : ∀ {H H' : GH} {cs : List Value} {x : α}, Ext H H' → rep H cs x → rep H' cs x

/-- Several of them, one behind the other. -/
inductive CellsR {α : Type} (A : Ty α) (H : GH) : List Value → List α → Prop
  | nil : CellsR A H [] []
  | cons {c cs : List Value} {x : α} {xs : List α} (h : A.rep H c x) (t : CellsR A H cs xs) : CellsR A H (c ++ cs) (x :: xs)
section
variable {α : Type} {A : Ty α} {H H' : GH} {cs ds : List Value} {xs ys : List α}
theorem CellsR.length (h : CellsR A H cs xs) : cs.length = xs.length * A.sz := by
  induction h with
  | nil => simp
  | cons h t ih => rw [List.length_append, A.len h, ih, List.length_cons, Nat.succ_mul, Nat.add_comm]
theorem CellsR.all (h : CellsR A H cs xs) : cs.all oneC = true := by
  induction h with
  | nil => rfl
  | cons h t ih => rw [List.all_append, A.one h, ih]; rfl
theorem CellsR.mono (hE : Ext H H') (h : CellsR A H cs xs) : CellsR A H' cs xs := by
  induction h with
  | nil => exact .nil
  | cons h t ih => exact .cons (A.mono hE h) ih
theorem CellsR.append (h : CellsR A H cs xs) (k : CellsR A H ds ys) : CellsR A H (cs ++ ds) (xs ++ ys) := by
  induction h with
  | nil => exact k
  | cons h t ih => rw [List.append_assoc]; exact .cons h ih
theorem CellsR.at (h : CellsR A H cs xs) {i : Nat} (hi : i < xs.length) : A.rep H ((cs.drop (i * A.sz)).take A.sz) xs[i] := by
  induction h generalizing i with
  | nil => exact absurd hi (by simp)
  | @cons c cs x xs h t ih =>
    cases i with
    | zero =>
      have e : ((c ++ cs).drop (0 * A.sz)).take A.sz = c := by rw [Nat.zero_mul, List.drop_zero, ← A.len h, List.take_left]
      rw [e]; exact h
    | succ i =>
      have hi' : i < xs.length := by simpa using hi
      have e : (c ++ cs).drop ((i + 1) * A.sz) = cs.drop (i * A.sz) := by
        rw [Nat.succ_mul, Nat.add_comm, ← List.drop_drop]
        congr 1
        rw [← A.len h, List.drop_left]
      rw [e]; exact ih hi'
theorem CellsR.one1 {c : List Value} {x : α} (h : A.rep H c x) : CellsR A H c [x] := by have := CellsR.cons h .nil; rwa [List.append_nil] at this
end

/-- A pointer to cells. -/
def PtC (H : GH) (p : Value) (cs : List Value) : Prop := ∃ b o row e ro, p = .pointer (some ⟨b, o, none⟩) ∧ H.get b = some (.row row e ro) ∧ o + cs.length ≤ row.length ∧ (row.drop o).take cs.length = cs
section
variable {P : Program} {H H' : GH} {p : Value} {cs : List Value} {t : TypeId}
theorem PtC.mono (hE : Ext H H') (h : PtC H p cs) : PtC H' p cs := by
  obtain ⟨b, o, row, e, ro, h1, h2, h3⟩ := h
  exact ⟨b, o, row, e, ro, h1, hE.get_of h2, h3⟩
/-- A type that may be loaded: is it an aggregate? how many cells? -/
def ldOk (P : Program) (t : TypeId) (agg : Bool) (sz : Nat) : Bool := (P.underlying t).isSome && gIsAgg P t == agg && gSize P t == some sz
theorem ldOk_spec {agg : Bool} {sz : Nat} (h : ldOk P t agg sz = true) : (∃ u, P.underlying t = some u) ∧ gIsAgg P t = agg ∧ gSize P t = some sz := by
  unfold ldOk at h
  simp only [Bool.and_eq_true, beq_iff_eq] at h
  exact ⟨Option.isSome_iff_exists.1 h.1.1, h.1.2, h.2⟩
theorem PtC.load1 {c : Value} (h : PtC H p [c]) (ht : ldOk P t false 1 = true) : gLoad P t p H = some c := by
  obtain ⟨⟨u, hu⟩, ha, hs⟩ := ldOk_spec ht
  obtain ⟨b, o, row, e, ro, rfl, h2, h3, h4⟩ := h
  unfold gLoad
  simp only [h2, hu, hs, ha, Bool.false_eq_true, if_false]
  simp only [List.length_cons, List.length_nil, Nat.zero_add] at h3 h4
  have hlt : o < row.length := by omega
  rw [List.drop_eq_getElem_cons hlt, List.take_succ_cons, List.take_zero] at h4
  injection h4 with h4
  rw [List.getElem?_eq_getElem hlt, h4]
theorem PtC.loadA (h : PtC H p cs) (ht : ldOk P t true cs.length = true) : gLoad P t p H = some (.agg cs.toArray) := by
  obtain ⟨⟨u, hu⟩, ha, hs⟩ := ldOk_spec ht
  obtain ⟨b, o, row, e, ro, rfl, h2, h3, h4⟩ := h
  unfold gLoad
  simp only [h2, hu, hs, ha, if_true, if_pos h3, h4]
/-- A field of a struct: where it begins, how many cells it has. -/
def fdOk (P : Program) (s f off sz : Nat) : Bool := match P.underlying s with
  | some (.struct fs) => match fs[f]? with | some fd => fd.offset == off && gSize P fd.type == some sz && decide (0 < sz) | none => false
  | _ => false
theorem PtC.field {s f off sz : Nat} (h : PtC H p cs) (hf : fdOk P s f off sz = true) (hl : off + sz ≤ cs.length) : ∃ q, oFieldAddr P s p f = some q ∧ PtC H q ((cs.drop off).take sz) := by
  unfold fdOk at hf
  split at hf
  case h_2 => cases hf
  next fs hu =>
  split at hf
  case h_2 => cases hf
  next fd hfd =>
  simp only [Bool.and_eq_true, beq_iff_eq, decide_eq_true_eq] at hf
  obtain ⟨b, o, row, e, ro, rfl, h2, h3, h4⟩ := h
  obtain ⟨n, rfl⟩ : ∃ n, sz = n + 1 := ⟨sz - 1, by omega⟩
  refine ⟨.pointer (some ⟨b, o + off, none⟩), ?_, b, o + off, row, e, ro, rfl, h2, ?_, ?_⟩
  · unfold oFieldAddr
    simp only [hu, hfd, hf.1.2, hf.1.1]
    unfold Addr.add
    by_cases h0 : off = 0
    · simp [h0]
    · simp [h0]
  · simp only [List.length_take, List.length_drop]; omega
  · have e1 : ((cs.drop off).take (n + 1)).length = n + 1 := by simp only [List.length_take, List.length_drop]; omega
    rw [e1, ← List.drop_drop]
    conv => rhs; rw [← h4]
    rw [List.drop_take, List.take_take]
    congr 1
    omega
end

/-- A slice that holds these, in order. -/
def SlR {α : Type} (A : Ty α) (H : GH) (v : Value) (xs : List α) : Prop :=
  (v = .slice none 0 0 ∧ xs = []) ∨ ∃ b o c row e ro cs, v = .slice (some ⟨b, o, none⟩) xs.length c ∧ H.get b = some (.row row e ro) ∧ o + cs.length ≤ row.length ∧ (row.drop o).take cs.length = cs ∧ CellsR A H cs xs
section
variable {α : Type} {A : Ty α} {P : Program} {H H' : GH} {v : Value} {xs ys : List α} {t e : TypeId}
theorem SlR.mono (hE : Ext H H') (h : SlR A H v xs) : SlR A H' v xs := by
  rcases h with h | ⟨b, o, c, row, e, ro, cs, h1, h2, h3, h4, h5⟩
  · exact .inl h
  · exact .inr ⟨b, o, c, row, e, ro, cs, h1, hE.get_of h2, h3, h4, h5.mono hE⟩
theorem SlR.nil : SlR A H (.slice none 0 0) [] := .inl ⟨rfl, rfl⟩
theorem SlR.val (h : SlR A H v xs) : ∃ a c, v = .slice a xs.length c := by
  rcases h with ⟨rfl, rfl⟩ | ⟨b, o, c, row, e, ro, cs, rfl, _⟩
  · exact ⟨none, 0, rfl⟩
  · exact ⟨_, c, rfl⟩
theorem SlR.oLen (h : SlR A H v xs) (hu : P.underlying t = some (.slice e)) : oLen P t v = some (.int .i64 xs.length) := by
  obtain ⟨a, c, rfl⟩ := h.val
  unfold Gh.oLen
  rw [hu]
theorem SlR.at (h : SlR A H v xs) (hu : P.underlying t = some (.slice e)) (hs : gSize P e = some A.sz) {k : IntKind} {i : Nat} (hi : i < xs.length) :
    ∃ p cs, oIndexAddr P t v (.int k i) = some p ∧ PtC H p cs ∧ A.rep H cs xs[i] := by
  rcases h with ⟨_, rfl⟩ | ⟨b, o, c, row, e', ro, cs, rfl, h2, h3, h4, h5⟩
  · exact absurd hi (by simp)
  · refine ⟨.pointer (some ⟨b, o + i * A.sz, none⟩), (cs.drop (i * A.sz)).take A.sz, ?_, ⟨b, _, row, e', ro, rfl, h2, ?_, ?_⟩, h5.at hi⟩
    · unfold oIndexAddr
      simp only [hu]
      rw [if_pos ⟨by omega, by omega⟩, hs]
      simp only [Option.map_some, Int.toNat_natCast]
      unfold Addr.add
      by_cases h0 : i * A.sz = 0
      · simp [h0]
      · simp [h0]
    · have hl := h5.length
      have : (i + 1) * A.sz ≤ xs.length * A.sz := Nat.mul_le_mul_right _ hi
      rw [Nat.succ_mul] at this
      simp only [List.length_take, List.length_drop]; omega
    · have hl := h5.length
      have : (i + 1) * A.sz ≤ xs.length * A.sz := Nat.mul_le_mul_right _ hi
      rw [Nat.succ_mul] at this
      have e1 : ((cs.drop (i * A.sz)).take A.sz).length = A.sz := by simp only [List.length_take, List.length_drop]; omega
      rw [e1, ← List.drop_drop]
      conv => rhs; rw [← h4]
      rw [List.drop_take, List.take_take]
      congr 1
      omega
theorem SlR.first (h : SlR A H v xs) : ∃ cs, gFirst A.sz xs.length v H = some cs ∧ CellsR A H cs xs := by
  rcases h with ⟨rfl, rfl⟩ | ⟨b, o, c, row, e', ro, cs, rfl, h2, h3, h4, h5⟩
  · exact ⟨[], rfl, .nil⟩
  · refine ⟨cs, ?_, h5⟩
    unfold gFirst
    simp only [h2]
    rw [← h5.length, if_pos h3, h4]

/-- What an append asks of an element's type. -/
def elemOk (P : Program) (e sz : Nat) : Bool := match P.info? e, gZero P e with
  | some i, some z => i.size == sz && decide (0 < i.bytes) && decide (i.bytes ≤ 1000) && z.cells.size == sz && decide (0 < sz)
  | _, _ => false
theorem elemOk_spec {sz : Nat} (h : elemOk P e sz = true) : ∃ i z, P.info? e = some i ∧ gZero P e = some z ∧ i.size = sz ∧ 0 < i.bytes ∧ i.bytes ≤ 1000 ∧ z.cells.size = sz ∧ 0 < sz := by
  unfold elemOk at h
  split at h
  · next i z hi hz =>
    simp only [Bool.and_eq_true, beq_iff_eq, decide_eq_true_eq] at h
    exact ⟨i, z, hi, hz, h.1.1.1.1, h.1.1.1.2, h.1.1.2, h.1.2, h.2⟩
  · cases h
theorem elemOk_size {sz : Nat} (h : elemOk P e sz = true) : gSize P e = some sz := by
  obtain ⟨i, z, hi, _, rfl, _⟩ := elemOk_spec h
  unfold gSize
  rw [hi]
  rfl

/-- A slice that grows by append, of the call's own: its row is new since H0, and nobody else's. -/
def Own {α : Type} (A : Ty α) (e : TypeId) (H0 H : GH) (v : Value) (xs : List α) : Prop :=
  (v = .slice none 0 0 ∧ xs = []) ∨ ∃ b cs, v = .slice (some ⟨b, 0, none⟩) xs.length (loose + A.sz) ∧ H0.n ≤ b ∧ H.get b = some (.row cs e false) ∧ CellsR A H0 cs xs
def blkOf : Value → Option Nat
  | .slice (some a) _ _ => some a.block
  | _ => none
theorem Own.slr {H0 : GH} (hE : Ext H0 H) (h : Own A e H0 H v xs) : SlR A H v xs := by
  rcases h with h | ⟨b, cs, h1, h2, h3, h4⟩
  · exact .inl h
  · exact .inr ⟨b, 0, _, cs, e, false, cs, h1, h3, by omega, by simp, h4.mono hE⟩
theorem Own.lt {H0 : GH} (h : Own A e H0 H v xs) {b : Nat} (hb : blkOf v = some b) : H0.n ≤ b ∧ b < H.n := by
  rcases h with ⟨rfl, _⟩ | ⟨b', cs, rfl, h2, h3, h4⟩
  · cases hb
  · injection hb with hb; subst hb; exact ⟨h2, GH.get_lt h3⟩
/-- Where the row stands as it was. -/
theorem Own.keep {H0 : GH} (h : Own A e H0 H v xs) (hk : ∀ b, blkOf v = some b → H'.get b = H.get b) : Own A e H0 H' v xs := by
  rcases h with h | ⟨b, cs, rfl, h2, h3, h4⟩
  · exact .inl h
  · exact .inr ⟨b, cs, rfl, h2, (hk b rfl).trans h3, h4⟩
theorem Own.nil {H0 : GH} : Own A e H0 H (.slice none 0 0) [] := .inl ⟨rfl, rfl⟩

theorem roomy_of {n bytes : Nat} (h : n ≤ 1000000000) (hb : bytes ≤ 1000) : roomy n bytes = true := by
  unfold roomy
  have : n * bytes ≤ 1000000000 * 1000 := Nat.mul_le_mul h hb
  simp only [Bool.and_eq_true, decide_eq_true_eq]
  omega

theorem Own.append {H0 : GH} {st xt e' : TypeId} {y : Value} {new : List Value} (hE : Ext H0 H) (h : Own A e H0 H v xs) (hst : P.underlying st = some (.slice e)) (hxt : P.underlying xt = some (.slice e')) (he : elemOk P e A.sz = true)
    (hy : ∃ a c, y = .slice a ys.length c) (hf : gFirst A.sz ys.length y H = some new) (hc : CellsR A H0 new ys) (hn : xs.length + ys.length ≤ 1000000000) :
    ∃ v' H', gAppend P st xt v y H = some (v', H') ∧ Ext H0 H' ∧ Own A e H0 H' v' (xs ++ ys) ∧ H.n ≤ H'.n ∧ (∀ b, b < H.n → blkOf v ≠ some b → H'.get b = H.get b) ∧ (∀ b, blkOf v' = some b → H.n ≤ b ∨ blkOf v = some b) := by
  obtain ⟨i, z, hi, hz, hsz, hb0, hb1, hzc, hpos⟩ := elemOk_spec he
  obtain ⟨ya, yc, rfl⟩ := hy
  have hnl : new.length = ys.length * A.sz := hc.length
  have hap : gAppended P xt i z (.slice ya ys.length yc) H = some (ys.length, new) := by
    unfold gAppended
    simp only [hxt, hsz, hf]
    rfl
  have hroom : (roomy (xs.length + ys.length) i.bytes && new.all oneC && new.length == ys.length * i.size && z.cells.size == i.size && decide (0 < i.size) && decide (0 < i.bytes)) = true := by
    rw [roomy_of hn hb1, hc.all, hsz]
    simp [hnl, hzc, hpos, hb0]
  unfold gAppend
  rcases h with ⟨rfl, rfl⟩ | ⟨b, cs, rfl, hb2, hg, hcs⟩
  · simp only [List.length_nil, Nat.zero_add] at hroom
    simp only [hst, hi, hz, hap, Nat.zero_add, hroom, if_true, and_self]
    by_cases h0 : ys.length = 0
    · have hys : ys = [] := List.length_eq_zero_iff.1 h0
      subst hys
      exact ⟨_, H, if_pos rfl, hE, .inl ⟨rfl, rfl⟩, Nat.le_refl _, fun _ _ _ => rfl, fun b hb => by cases hb⟩
    · rw [if_neg h0]
      refine ⟨_, _, rfl, hE.push' _, .inr ⟨H.n, new, ?_, hE.n, GH.get_push_new, ?_⟩, Nat.le_succ _, fun b hb _ => GH.get_push_old hb, fun b hb => ?_⟩
      · rw [hsz]; rfl
      · exact hc
      · injection hb with hb; exact .inl (by rw [← hb]; exact Nat.le_refl _)
  · have hbn := GH.get_lt hg
    simp only [hst, hi, hz, hap, hroom, if_true]
    by_cases h0 : ys.length = 0
    · have hys : ys = [] := List.length_eq_zero_iff.1 h0
      subst hys
      refine ⟨_, _, if_pos rfl, hE, .inr ⟨b, cs, by simp, hb2, hg, by simpa using hcs⟩, Nat.le_refl _, fun _ _ _ => rfl, fun b' hb' => .inr hb'⟩
    · rw [if_neg h0, if_neg (by omega), if_pos (by rw [hsz])]
      have hfirst : gFirst i.size xs.length (.slice (some ⟨b, 0, none⟩) xs.length (loose + A.sz)) H = some cs := by
        unfold gFirst
        simp only [hg, hsz, Nat.zero_add]
        rw [← hcs.length, if_pos (Nat.le_refl _), List.drop_zero, List.take_length]
      simp only [hg, hfirst]
      rw [if_pos ⟨trivial, by rw [hsz]; exact hcs.length⟩]
      refine ⟨_, _, rfl, (hE.set hb2 hbn _).push' _, .inr ⟨H.n, cs ++ new, ?_, hE.n, GH.get_push_new, hcs.append hc⟩, Nat.le_succ _, fun b' hb' hne => ?_, fun b' hb' => ?_⟩
      · rw [hsz, List.length_append]
      · rw [GH.get_push_old (by rw [GH.set_n]; exact hb'), GH.get_set_other (by intro e; subst e; exact hne rfl) hbn]
      · injection hb' with hb'; exact .inl (by rw [← hb']; exact Nat.le_refl _)
end
/-- Data that lead nowhere: how they lie hangs on no heap. -/
def Ty.Flat {α : Type} (A : Ty α) : Prop := ∀ (H H' : GH) (cs : List Value) (x : α), A.rep H cs x → A.rep H' cs x
section
variable {α : Type} {A : Ty α} {H H' H0 : GH} {v : Value} {xs : List α} {cs : List Value} {e : TypeId}
theorem CellsR.flat (hf : A.Flat) (h : CellsR A H cs xs) : CellsR A H' cs xs := by
  induction h with
  | nil => exact .nil
  | cons h t ih => exact .cons (hf _ _ _ _ h) ih
/-- Where all rows stand as they were. -/
theorem SlR.rows (hf : A.Flat) (h : SlR A H v xs) (hk : ∀ b row e ro, H.get b = some (.row row e ro) → H'.get b = H.get b) : SlR A H' v xs := by
  rcases h with h | ⟨b, o, c, row, e, ro, cs, h1, h2, h3, h4, h5⟩
  · exact .inl h
  · exact .inr ⟨b, o, c, row, e, ro, cs, h1, (hk _ _ _ _ h2).trans h2, h3, h4, h5.flat hf⟩
theorem Own.cell (h : Own A e H0 H v xs) : v.cells.size = 1 ∧ v.cells.toList.all oneC = true ∧ v.cells.toList = [v] := by
  rcases h with ⟨rfl, _⟩ | ⟨b, cs, rfl, _⟩ <;> exact ⟨rfl, rfl, rfl⟩
theorem SlR.cell (h : SlR A H v xs) : v.cells.size = 1 ∧ v.cells.toList.all oneC = true ∧ v.cells.toList = [v] := by
  obtain ⟨a, c, rfl⟩ := h.val; exact ⟨rfl, rfl, rfl⟩
end
end Go.Gh
