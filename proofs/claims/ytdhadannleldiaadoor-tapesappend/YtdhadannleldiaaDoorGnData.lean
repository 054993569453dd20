/- The ghost machine: how data lie in a heap, and what operations on slices come to. -/
import Derived.Test.YtdhadannleldiaaDoorGkTop
import Derived.Laws.StructEq
import Derived.ChangeArms
namespace Go.Gh
set_option linter.unusedVariables false
set_option linter.unusedSimpArgs false

/-- How data of a kind lie in cells. -/
structure Ty (α : Type) where
  sz : Nat
  rep : GH → List Value → α → Prop
  len : ∀ {H : GH} {cs : List Value} {x : α}, rep H cs x → cs.length = sz
  one : ∀ {H : GH} {cs : List Value} {x : α}, rep H cs x → cs.all oneC = true
  mono : ∀ {H H' : GH} {cs : List Value} {x : α}, Ext H H' → rep H cs x → rep H' cs x

/-- Several of them, one behind the other. -/
inductive CellsR {α : Type} (A : Ty α) (H : GH) : List Value → List α → Prop
  | nil : CellsR A H [] []
  | cons {c cs : List Value} {x : α} {xs : List α} (h : A.rep H c x) (t : CellsR A H cs xs) : CellsR A H (c ++ cs) (x :: xs)
section
variable {α : Type} {A : Ty α} {H H' : GH} {cs ds : List Value} {xs ys : List α}
theorem CellsR.length (h : CellsR A H cs xs) : cs.length = xs.length * A.sz := by
  induction h with
  | nil => simp
  | cons h t ih => rw [List.length_append, A.len h, ih, List.length_cons, Nat.succ_mul, Nat.add_comm]
theorem CellsR.all (h : CellsR A H cs xs) : cs.all oneC = true := by
  induction h with
  | nil => rfl
  | cons h t ih => rw [List.all_append, A.one h, ih]; rfl
theorem CellsR.mono (hE : Ext H H') (h : CellsR A H cs xs) : CellsR A H' cs xs := by
  induction h with
  | nil => exact .nil
  | cons h t ih => exact .cons (A.mono hE h) ih
theorem CellsR.append (h : CellsR A H cs xs) (k : CellsR A H ds ys) : CellsR A H (cs ++ ds) (xs ++ ys) := by
  induction h with
  | nil => exact k
  | cons h t ih => rw [List.append_assoc]; exact .cons h ih
theorem CellsR.at (h : CellsR A H cs xs) {i : Nat} (hi : i < xs.length) : A.rep H ((cs.drop (i * A.sz)).take A.sz) xs[i] := by
  induction h generalizing i with
  | nil => exact absurd hi (by simp)
  | @cons c cs x xs h t ih =>
    cases i with
    | zero =>
      have e : ((c ++ cs).drop (0 * A.sz)).take A.sz = c := by rw [Nat.zero_mul, List.drop_zero, ← A.len h, List.take_left]
      rw [e]; exact h
    | succ i =>
      have hi' : i < xs.length := by simpa using hi
      have e : (c ++ cs).drop ((i + 1) * A.sz) = cs.drop (i * A.sz) := by
        rw [Nat.succ_mul, Nat.add_comm, ← List.drop_drop]
        congr 1
        rw [← A.len h, List.drop_left]
      rw [e]; exact ih hi'
theorem CellsR.one1 {c : List Value} {x : α} (h : A.rep H c x) : CellsR A H c [x] := by have := CellsR.cons h .nil; rwa [List.append_nil] at this
end

/-- A pointer to cells. -/
def PtC (H : GH) (p : Value) (cs : List Value) : Prop := ∃ b o row e ro, p = .pointer (some ⟨b, o, none⟩) ∧ H.get b = some (.row row e ro) ∧ o + cs.length ≤ row.length ∧ (row.drop o).take cs.length = cs
section
variable {P : Program} {H H' : GH} {p : Value} {cs : List Value} {t : TypeId}
theorem PtC.mono (hE : Ext H H') (h : PtC H p cs) : PtC H' p cs := by
  obtain ⟨b, o, row, e, ro, h1, h2, h3⟩ := h
  exact ⟨b, o, row, e, ro, h1, hE.get_of h2, h3⟩
/-- A type that may be loaded: is it an aggregate? how many cells? -/
def ldOk (P : Program) (t : TypeId) (agg : Bool) (sz : Nat) : Bool := (P.underlying t).isSome && gIsAgg P t == agg && gSize P t == some sz
theorem ldOk_spec {agg : Bool} {sz : Nat} (h : ldOk P t agg sz = true) : (∃ u, P.underlying t = some u) ∧ gIsAgg P t = agg ∧ gSize P t = some sz := by
  unfold ldOk at h
  simp only [Bool.and_eq_true, beq_iff_eq] at h
  exact ⟨Option.isSome_iff_exists.1 h.1.1, h.1.2, h.2⟩
theorem PtC.load1 {c : Value} (h : PtC H p [c]) (ht : ldOk P t false 1 = true) : gLoad P t p H = some c := by
  obtain ⟨⟨u, hu⟩, ha, hs⟩ := ldOk_spec ht
  obtain ⟨b, o, row, e, ro, rfl, h2, h3, h4⟩ := h
  unfold gLoad
  simp only [h2, hu, hs, ha, Bool.false_eq_true, if_false]
  simp only [List.length_cons, List.length_nil, Nat.zero_add] at h3 h4
  have hlt : o < row.length := by omega
  rw [List.drop_eq_getElem_cons hlt, List.take_succ_cons, List.take_zero] at h4
  injection h4 with h4
  rw [List.getElem?_eq_getElem hlt, h4]
theorem PtC.loadA (h : PtC H p cs) (ht : ldOk P t true cs.length = true) : gLoad P t p H = some (.agg cs.toArray) := by
  obtain ⟨⟨u, hu⟩, ha, hs⟩ := ldOk_spec ht
  obtain ⟨b, o, row, e, ro, rfl, h2, h3, h4⟩ := h
  unfold gLoad
  simp only [h2, hu, hs, ha, if_true, if_pos h3, h4]
/-- A field of a struct: where it begins, how many cells it has. -/
def fdOk (P : Program) (s f off sz : Nat) : Bool := match P.underlying s with
  | some (.struct fs) => match fs[f]? with | some fd => fd.offset == off && gSize P fd.type == some sz && decide (0 < sz) | none => false
  | _ => false
theorem PtC.field {s f off sz : Nat} (h : PtC H p cs) (hf : fdOk P s f off sz = true) (hl : off + sz ≤ cs.length) : ∃ q, oFieldAddr P s p f = some q ∧ PtC H q ((cs.drop off).take sz) := by
  unfold fdOk at hf
  split at hf
  case h_2 => cases hf
  next fs hu =>
  split at hf
  case h_2 => cases hf
  next fd hfd =>
  simp only [Bool.and_eq_true, beq_iff_eq, decide_eq_true_eq] at hf
  obtain ⟨b, o, row, e, ro, rfl, h2, h3, h4⟩ := h
  obtain ⟨n, rfl⟩ : ∃ n, sz = n + 1 := ⟨sz - 1, by omega⟩
  refine ⟨.pointer (some ⟨b, o + off, none⟩), ?_, b, o + off, row, e, ro, rfl, h2, ?_, ?_⟩
  · unfold oFieldAddr
    simp only [hu, hfd, hf.1.2, hf.1.1]
    unfold Addr.add
    by_cases h0 : off = 0
    · simp [h0]
    · simp [h0]
  · simp only [List.length_take, List.length_drop]; omega
  · have e1 : ((cs.drop off).take (n + 1)).length = n + 1 := by simp only [List.length_take, List.length_drop]; omega
    rw [e1, ← List.drop_drop]
    conv => rhs; rw [← h4]
    rw [List.drop_take, List.take_take]
    congr 1
    omega
end

/-- A slice that holds these, in order. -/
def SlR {α : Type} (A : Ty α) (H : GH) (v : Value) (xs : List α) : Prop :=
  (v = .slice none 0 0 ∧ xs = []) ∨ ∃ b o c row e ro cs, v = .slice (some ⟨b, o, none⟩) xs.length c ∧ H.get b = some (.row row e ro) ∧ o + cs.length ≤ row.length ∧ (row.drop o).take cs.length = cs ∧ CellsR A H cs xs
section
variable {α : Type} {A : Ty α} {P : Program} {H H' : GH} {v : Value} {xs ys : List α} {t e : TypeId}
theorem SlR.mono (hE : Ext H H') (h : SlR A H v xs) : SlR A H' v xs := by
  rcases h with h | ⟨b, o, c, row, e, ro, cs, h1, h2, h3, h4, h5⟩
  · exact .inl h
  · exact .inr ⟨b, o, c, row, e, ro, cs, h1, hE.get_of h2, h3, h4, h5.mono hE⟩
theorem SlR.nil : SlR A H (.slice none 0 0) [] := .inl ⟨rfl, rfl⟩
theorem SlR.val (h : SlR A H v xs) : ∃ a c, v = .slice a xs.length c := by
  rcases h with ⟨rfl, rfl⟩ | ⟨b, o, c, row, e, ro, cs, rfl, _⟩
  · exact ⟨none, 0, rfl⟩
  · exact ⟨_, c, rfl⟩
theorem SlR.oLen (h : SlR A H v xs) (hu : P.underlying t = some (.slice e)) : oLen P t v = some (.int .i64 xs.length) := by
  obtain ⟨a, c, rfl⟩ := h.val
  unfold Gh.oLen
  rw [hu]
theorem SlR.at (h : SlR A H v xs) (hu : P.underlying t = some (.slice e)) (hs : gSize P e = some A.sz) {k : IntKind} {i : Nat} (hi : i < xs.length) :
    ∃ p cs, oIndexAddr P t v (.int k i) = some p ∧ PtC H p cs ∧ A.rep H cs xs[i] := by
  rcases h with ⟨_, rfl⟩ | ⟨b, o, c, row, e', ro, cs, rfl, h2, h3, h4, h5⟩
  · exact absurd hi (by simp)
  · refine ⟨.pointer (some ⟨b, o + i * A.sz, none⟩), (cs.drop (i * A.sz)).take A.sz, ?_, ⟨b, _, row, e', ro, rfl, h2, ?_, ?_⟩, h5.at hi⟩
    · unfold oIndexAddr
      simp only [hu]
      rw [if_pos ⟨by omega, by omega⟩, hs]
      simp only [Option.map_some, Int.toNat_natCast]
      unfold Addr.add
      by_cases h0 : i * A.sz = 0
      · simp [h0]
      · simp [h0]
    · have hl := h5.length
      have : (i + 1) * A.sz ≤ xs.length * A.sz := Nat.mul_le_mul_right _ hi
      rw [Nat.succ_mul] at this
      simp only [List.length_take, List.length_drop]; omega
    · have hl := h5.length
      have : (i + 1) * A.sz ≤ xs.length * A.sz := Nat.mul_le_mul_right _ hi
      rw [Nat.succ_mul] at this
      have e1 : ((cs.drop (i * A.sz)).take A.sz).length = A.sz := by simp only [List.length_take, List.length_drop]; omega
      rw [e1, ← List.drop_drop]
      conv => rhs; rw [← h4]
      rw [List.drop_take, List.take_take]
      congr 1
      omega
theorem SlR.first (h : SlR A H v xs) : ∃ cs, gFirst A.sz xs.length v H = some cs ∧ CellsR A H cs xs := by
  rcases h with ⟨rfl, rfl⟩ | ⟨b, o, c, row, e', ro, cs, rfl, h2, h3, h4, h5⟩
  · exact ⟨[], rfl, .nil⟩
  · refine ⟨cs, ?_, h5⟩
    unfold gFirst
    simp only [h2]
    rw [← h5.length, if_pos h3, h4]

/-- What an append asks of an element's type. -/
def elemOk (P : Program) (e sz : Nat) : Bool := match P.info? e, gZero P e with
  | some i, some z => i.size == sz && decide (0 < i.bytes) && decide (i.bytes ≤ 1000) && z.cells.size == sz && decide (0 < sz)
  | _, _ => false
theorem elemOk_spec {sz : Nat} (h : elemOk P e sz = true) : ∃ i z, P.info? e = some i ∧ gZero P e = some z ∧ i.size = sz ∧ 0 < i.bytes ∧ i.bytes ≤ 1000 ∧ z.cells.size = sz ∧ 0 < sz := by
  unfold elemOk at h
  split at h
  · next i z hi hz =>
    simp only [Bool.and_eq_true, beq_iff_eq, decide_eq_true_eq] at h
    exact ⟨i, z, hi, hz, h.1.1.1.1, h.1.1.1.2, h.1.1.2, h.1.2, h.2⟩
  · cases h
theorem elemOk_size {sz : Nat} (h : elemOk P e sz = true) : gSize P e = some sz := by
  obtain ⟨i, z, hi, _, rfl, _⟩ := elemOk_spec h
  unfold gSize
  rw [hi]
  rfl

/-- A slice that grows by append, of the call's own: its row is new since H0, and nobody else's. -/
def Own {α : Type} (A : Ty α) (e : TypeId) (H0 H : GH) (v : Value) (xs : List α) : Prop :=
  (v = .slice none 0 0 ∧ xs = []) ∨ ∃ b cs, v = .slice (some ⟨b, 0, none⟩) xs.length (loose + A.sz) ∧ H0.n ≤ b ∧ H.get b = some (.row cs e false) ∧ CellsR A H0 cs xs
def blkOf : Value → Option Nat
  | .slice (some a) _ _ => some a.block
  | _ => none
theorem Own.slr {H0 : GH} (hE : Ext H0 H) (h : Own A e H0 H v xs) : SlR A H v xs := by
  rcases h with h | ⟨b, cs, h1, h2, h3, h4⟩
  · exact .inl h
  · exact .inr ⟨b, 0, _, cs, e, false, cs, h1, h3, by omega, by simp, h4.mono hE⟩
theorem Own.lt {H0 : GH} (h : Own A e H0 H v xs) {b : Nat} (hb : blkOf v = some b) : H0.n ≤ b ∧ b < H.n := by
  rcases h with ⟨rfl, _⟩ | ⟨b', cs, rfl, h2, h3, h4⟩
  · cases hb
  · injection hb with hb; subst hb; exact ⟨h2, GH.get_lt h3⟩
/-- Where the row stands as it was. -/
theorem Own.keep {H0 : GH} (h : Own A e H0 H v xs) (hk : ∀ b, blkOf v = some b → H'.get b = H.get b) : Own A e H0 H' v xs := by
  rcases h with h | ⟨b, cs, rfl, h2, h3, h4⟩
  · exact .inl h
  · exact .inr ⟨b, cs, rfl, h2, (hk b rfl).trans h3, h4⟩
theorem Own.nil {H0 : GH} : Own A e H0 H (.slice none 0 0) [] := .inl ⟨rfl, rfl⟩

theorem roomy_of {n bytes : Nat} (h : n ≤ 1000000000) (hb : bytes ≤ 1000) : roomy n bytes = true := by
  unfold roomy
  have : n * bytes ≤ 1000000000 * 1000 := Nat.mul_le_mul h hb
  simp only [Bool.and_eq_true, decide_eq_true_eq]
  omega

theorem Own.append {H0 : GH} {st xt e' : TypeId} {y : Value} {new : List Value} (hE : Ext H0 H) (h : Own A e H0 H v xs) (hst : P.underlying st = some (.slice e)) (hxt : P.underlying xt = some (.slice e')) (he : elemOk P e A.sz = true)
    (hy : ∃ a c, y = .slice a ys.length c) (hf : gFirst A.sz ys.length y H = some new) (hc : CellsR A H0 new ys) (hn : xs.length + ys.length ≤ 1000000000) :
    ∃ v' H', gAppend P st xt v y H = some (v', H') ∧ Ext H0 H' ∧ Own A e H0 H' v' (xs ++ ys) ∧ H.n ≤ H'.n ∧ (∀ b, b < H.n → blkOf v ≠ some b → H'.get b = H.get b) ∧ (∀ b, blkOf v' = some b → H.n ≤ b ∨ blkOf v = some b) := by
  obtain ⟨i, z, hi, hz, hsz, hb0, hb1, hzc, hpos⟩ := elemOk_spec he
  obtain ⟨ya, yc, rfl⟩ := hy
  have hnl : new.length = ys.length * A.sz := hc.length
  have hap : gAppended P xt i z (.slice ya ys.length yc) H = some (ys.length, new) := by
    unfold gAppended
    simp only [hxt, hsz, hf]
    rfl
  have hroom : (roomy (xs.length + ys.length) i.bytes && new.all oneC && new.length == ys.length * i.size && z.cells.size == i.size && decide (0 < i.size) && decide (0 < i.bytes)) = true := by
    rw [roomy_of hn hb1, hc.all, hsz]
    simp [hnl, hzc, hpos, hb0]
  unfold gAppend
  rcases h with ⟨rfl, rfl⟩ | ⟨b, cs, rfl, hb2, hg, hcs⟩
  · simp only [List.length_nil, Nat.zero_add] at hroom
    simp only [hst, hi, hz, hap, Nat.zero_add, hroom, if_true, and_self]
    by_cases h0 : ys.length = 0
    · have hys : ys = [] := List.length_eq_zero_iff.1 h0
      subst hys
      exact ⟨_, H, if_pos rfl, hE, .inl ⟨rfl, rfl⟩, Nat.le_refl _, fun _ _ _ => rfl, fun b hb => by cases hb⟩
    · rw [if_neg h0]
      refine ⟨_, _, rfl, hE.push' _, .inr ⟨H.n, new, ?_, hE.n, GH.get_push_new, ?_⟩, Nat.le_succ _, fun b hb _ => GH.get_push_old hb, fun b hb => ?_⟩
      · rw [hsz]; rfl
      · exact hc
      · injection hb with hb; exact .inl (by rw [← hb]; exact Nat.le_refl _)
  · have hbn := GH.get_lt hg
    simp only [hst, hi, hz, hap, hroom, if_true]
    by_cases h0 : ys.length = 0
    · have hys : ys = [] := List.length_eq_zero_iff.1 h0
      subst hys
      refine ⟨_, _, if_pos rfl, hE, .inr ⟨b, cs, by simp, hb2, hg, by simpa using hcs⟩, Nat.le_refl _, fun _ _ _ => rfl, fun b' hb' => .inr hb'⟩
    · rw [if_neg h0, if_neg (by omega), if_pos (by rw [hsz])]
      have hfirst : gFirst i.size xs.length (.slice (some ⟨b, 0, none⟩) xs.length (loose + A.sz)) H = some cs := by
        unfold gFirst
        simp only [hg, hsz, Nat.zero_add]
        rw [← hcs.length, if_pos (Nat.le_refl _), List.drop_zero, List.take_length]
      simp only [hg, hfirst]
      rw [if_pos ⟨trivial, by rw [hsz]; exact hcs.length⟩]
      refine ⟨_, _, rfl, (hE.set hb2 hbn _).push' _, .inr ⟨H.n, cs ++ new, ?_, hE.n, GH.get_push_new, hcs.append hc⟩, Nat.le_succ _, fun b' hb' hne => ?_, fun b' hb' => ?_⟩
      · rw [hsz, List.length_append]
      · rw [GH.get_push_old (by rw [GH.set_n]; exact hb'), GH.get_set_other (by intro e; subst e; exact hne rfl) hbn]
      · injection hb' with hb'; exact .inl (by rw [← hb']; exact Nat.le_refl _)
end
/-- Data that lead nowhere: how they lie hangs on no heap. -/
def Ty.Flat {α : Type} (A : Ty α) : Prop := ∀ (H H' : GH) (cs : List Value) (x : α), A.rep H cs x → A.rep H' cs x
section
variable {α : Type} {A : Ty α} {H H' H0 : GH} {v : Value} {xs : List α} {cs : List Value} {e : TypeId}
theorem CellsR.flat (hf : A.Flat) (h : CellsR A H cs xs) : CellsR A H' cs xs := by
  induction h with
  | nil => exact .nil
  | cons h t ih => exact .cons (hf _ _ _ _ h) ih
/-- Where all rows stand as they were. -/
theorem SlR.rows (hf : A.Flat) (h : SlR A H v xs) (hk : ∀ b row e ro, H.get b = some (.row row e ro) → H'.get b = H.get b) : SlR A H' v xs := by
  rcases h with h | ⟨b, o, c, row, e, ro, cs, h1, h2, h3, h4, h5⟩
  · exact .inl h
  · exact .inr ⟨b, o, c, row, e, ro, cs, h1, (hk _ _ _ _ h2).trans h2, h3, h4, h5.flat hf⟩
theorem Own.cell (h : Own A e H0 H v xs) : v.cells.size = 1 ∧ v.cells.toList.all oneC = true ∧ v.cells.toList = [v] := by
  rcases h with ⟨rfl, _⟩ | ⟨b, cs, rfl, _⟩ <;> exact ⟨rfl, rfl, rfl⟩
theorem SlR.cell (h : SlR A H v xs) : v.cells.size = 1 ∧ v.cells.toList.all oneC = true ∧ v.cells.toList = [v] := by
  obtain ⟨a, c, rfl⟩ := h.val; exact ⟨rfl, rfl, rfl⟩
end
end Go.Gh
/- The ghost machine: what comparisons of structs come to. -/
namespace Go.Gh
set_option linter.unusedVariables false
set_option linter.unusedSimpArgs false
section
variable {P : Program}
theorem quick_bind {α β : Type} (s : Sem α) (f : α → Sem β) : quick P (s >>= f) = (quick P s).bind fun a => quick P (f a) := by
  show quick P (Sem.bind s f) = _
  have : ∀ (P' : Program), quick P' (Sem.bind s f) = (quick P' s).bind fun a => quick P' (f a) := by
    induction s with
    | pure a => intro P'; rfl
    | program k ih => intro P'; exact ih P' P'
    | mark m k ih => intro P'; exact ih P'
    | _ => intro P'; rfl
  exact this P
theorem quick_pure {α : Type} (a : α) : quick P (Pure.pure a : Sem α) = some a := rfl
theorem quick_program : quick P Go.program = some P := rfl
theorem quick_underlying {t : TypeId} {d : TypeDesc} (h : P.underlying t = some d) : quick P (Go.underlying t) = some d := by
  unfold Go.underlying
  rw [quick_bind]
  simp only [quick_program, Option.bind_some, h]
  rfl
theorem quick_eqFields (d : Nat) (t : TypeId) (xs ys : Array Value) (ht : P.underlying t = some (.struct (P.fieldsOf t))) (hp : P.stoodInHeld t = false) :
    quick P (Op.equalIn (d + 1) t (.agg xs) (.agg ys)) = quick P (Op.eqFields d xs ys (P.fieldsOf t).toList) := by
  simp only [Op.equalIn, quick_bind, quick_underlying ht, Option.bind_some, quick_program, hp, Bool.false_eq_true, if_false]
  rw [← Array.forIn_toList]
  generalize (P.fieldsOf t).toList = fs
  clear ht
  induction fs with
  | nil => rfl
  | cons f fs ih =>
    simp only [List.forIn_cons, Op.eqFields]
    split
    · simp only [quick_bind]
      cases quick P (part f.type xs f.offset) with
      | none => rfl
      | some a =>
        simp only [Option.bind_some]
        cases quick P (part f.type ys f.offset) with
        | none => rfl
        | some b =>
          simp only [Option.bind_some]
          cases quick P (Op.equalIn d f.type a b) with
          | none => rfl
          | some r =>
            cases r
            · rfl
            · simp only [Option.bind_some, Bool.not_true, Bool.false_eq_true, if_false, quick_pure]
              exact ih
    · simp only [quick_bind, quick_pure, Option.bind_some]
      exact ih
theorem quick_eqInt (d : Nat) (t : TypeId) (k k' : IntKind) (a b : Int) (h : P.underlying t = some (.int k')) : quick P (Op.equalIn (d + 1) t (.int k a) (.int k b)) = some (a == b) := by
  simp only [Op.equalIn, quick_bind, quick_underlying h, Option.bind_some, if_true]
  rfl
theorem quick_eqBool (d : Nat) (t : TypeId) (a b : Bool) (h : P.underlying t = some .bool) : quick P (Op.equalIn (d + 1) t (.bool a) (.bool b)) = some (a == b) := by
  simp only [Op.equalIn, quick_bind, quick_underlying h, Option.bind_some]
  rfl
theorem quick_eqInt' {d : Nat} (hd : 0 < d) {t : TypeId} {k k' : IntKind} {a b : Int} (h : P.underlying t = some (.int k')) : quick P (Op.equalIn d t (.int k a) (.int k b)) = some (a == b) := by
  obtain ⟨d, rfl⟩ : ∃ e, d = e + 1 := ⟨d - 1, by omega⟩
  exact quick_eqInt d t k k' a b h
theorem quick_eqBool' {d : Nat} (hd : 0 < d) {t : TypeId} {a b : Bool} (h : P.underlying t = some .bool) : quick P (Op.equalIn d t (.bool a) (.bool b)) = some (a == b) := by
  obtain ⟨d, rfl⟩ : ∃ e, d = e + 1 := ⟨d - 1, by omega⟩
  exact quick_eqBool d t a b h
theorem quick_equal_struct (t : TypeId) (xs ys : Array Value) (ht : P.underlying t = some (.struct (P.fieldsOf t))) (hp : P.stoodInHeld t = false) :
    quick P (Op.equal t (.agg xs) (.agg ys)) = quick P (Op.eqFields 9999 xs ys (P.fieldsOf t).toList) := quick_eqFields 9999 t xs ys ht hp
theorem quick_eqCons {d : Nat} {xs ys : Array Value} {f : Field} {fs : List Field} {a b : Value} {r s : Bool} (hn : f.name ≠ "_") (ha : quick P (part f.type xs f.offset) = some a) (hb : quick P (part f.type ys f.offset) = some b)
    (he : quick P (Op.equalIn d f.type a b) = some r) (hr : quick P (Op.eqFields d xs ys fs) = some s) : quick P (Op.eqFields d xs ys (f :: fs)) = some (r && s) := by
  rw [Op.eqFields, if_pos hn]
  simp only [quick_bind, ha, hb, he, Option.bind_some]
  cases r
  · rfl
  · simpa using hr
theorem quick_eqNil {d : Nat} {xs ys : Array Value} : quick P (Op.eqFields d xs ys []) = some true := rfl
end
end Go.Gh
/- The ghost machine: arguments that lie in the world, laid as ghost rows that are only read. -/
namespace Go.Gh
set_option linter.unusedVariables false
set_option linter.unusedSimpArgs false

/-- A datum of the type, wherever it lies, can be laid as a ghost one. -/
def Opens {α : Type} (P : Program) (A : Ty α) (t : TypeId) : Prop :=
  ∀ {D : Type} (enc : TypeId × Value → D) (W : World) (fuel : Nat) (cs : List Value) (x : DataW D × List MemPlace), DataW.trod enc P W 0 (fun _ => true) true fuel t cs = some x →
    ∀ (m : PM) (H : GH), Rel P W.heap.size m H W → ∃ m' H' gs y, PM.le m m' ∧ Ext H H' ∧ Rel P W.heap.size m' H' W ∧ VRs m' gs cs ∧ A.rep H' gs y

section
variable {P : Program} {base : Nat} {m : PM} {H : GH} {w : World}
/-- A ghost block that stands for nothing. -/
theorem Rel.push_free (h : Rel P base m H w) (o : GObj) : Rel P base m (H.push o) w :=
  ⟨fun b p hb => by obtain ⟨o', r, h1, h2, h3⟩ := h.obj b p hb; exact ⟨o', r, (GH.get_push_old (h.id_lt hb)).trans h1, h2, h3⟩,
    fun b c p q hne hb hc => by rw [GH.get_push_old (h.id_lt hb), GH.get_push_old (h.id_lt hc)]; exact h.inj b c p q hne hb hc, h.glob⟩
/-- A ghost row that is only read, over cells that lie in the world. -/
theorem Rel.push_ro (h : Rel P base m H w) {B off sz : Nat} {arr : Array Value} {t : TypeId} {fr : Nat × Nat} (hB : w.heap[B]? = some (.cells arr t fr)) (hold : B < base) {gs : List Value} {e : TypeId}
    (hc : ∀ (i : Nat) (u : Value), gs[i]? = some u → ∃ u', arr[off + i]? = some u' ∧ VR m u u') :
    Rel P base (m.put H.n ⟨B, off, 0, sz, false⟩) (H.push (.row gs e true)) w := by
  have hle := h.put_le ⟨B, off, 0, sz, false⟩
  refine ⟨fun b q hb => ?_, fun b c q s hne hb hc' ab ac => ?_, h.glob.mono hle⟩
  · by_cases eb : b = H.n
    · subst eb
      rw [PM.put_same] at hb
      injection hb with hb
      subst hb
      exact ⟨_, _, GH.get_push_new, hB, .row rfl (fun _ => hold) (fun hf => by cases hf) fun i u hu => by obtain ⟨u', h1, h2⟩ := hc i u hu; exact ⟨u', h1, h2.mono hle⟩⟩
    · rw [PM.put_other m _ eb] at hb
      obtain ⟨o', r', h1, h2, h3⟩ := h.obj b q hb
      exact ⟨o', r', (GH.get_push_old (GH.get_lt h1)).trans h1, h2, h3.mono hle⟩
  · by_cases eb : b = H.n
    · subst eb
      rw [GH.get_push_new] at ab
      cases ab
    · by_cases ec : c = H.n
      · subst ec
        rw [GH.get_push_new] at ac
        cases ac
      · rw [PM.put_other m _ eb] at hb
        rw [PM.put_other m _ ec] at hc'
        rw [GH.get_push_old (h.id_lt hb)] at ab
        rw [GH.get_push_old (h.id_lt hc')] at ac
        exact h.inj b c q s hne hb hc' ab ac
end

section
variable {P : Program} {α : Type} {A : Ty α}
/-- A number. -/
theorem opens_int {k : IntKind} {t : TypeId} {A : Ty Int} (ht : P.underlying t = some (.int k)) (hA : ∀ H n, (Lit.int k n).wf = true → A.rep H [.int k n] n) : Opens P A t := by
  intro D enc W fuel cs x h m H hR
  obtain ⟨n, rfl, rfl, hwf⟩ := DataW.trod_int ht h
  exact ⟨m, H, [.int k n], n, .refl m, .refl H, hR, .cons (.int k n) .nil, hA H n hwf⟩

theorem cells_of {w : World} {a : Addr} {n : Nat} {cs : List Value} (h : w.cells? 0 a n = some cs) : cs.length = n ∧ ∀ i, i < n → w.cell? (a.add i) = cs[i]? := by
  unfold World.cells? at h
  rw [if_pos (Nat.zero_le _)] at h
  refine ⟨by simpa using mapM_some_length h, fun i hi => ?_⟩
  have := mapM_some_get h i i (by simp [hi])
  exact this
theorem cell_blk {w : World} {a : Addr} {u : Value} (h : w.cell? a = some u) : a.spot = none ∧ ∃ arr t fr, w.heap[a.block]? = some (.cells arr t fr) ∧ arr[a.off]? = some u := by
  unfold World.cell? at h
  split at h
  · next c t fr hc =>
    split at h
    · cases h
    · next hs => exact ⟨by simpa using hs, c, t, fr, hc, h⟩
  · cases h

/-- A slice. -/
theorem opens_slice {t e : TypeId} (ht : P.underlying t = some (.slice e)) (hsz : P.cellsOf e = A.sz) (hg : gSize P e = some A.sz) (hpos : 0 < A.sz) (hA : Opens P A e) {B : Ty (List α)} (hB : ∀ H v xs, SlR A H v xs → B.rep H [v] xs) : Opens P B t := by
  intro D enc W fuel cs x h m H hR
  rcases DataW.trod_slice ht h with ⟨rfl, rfl⟩ | ⟨a, len, cap, elems, rest, n, _, rfl, rfl, _, hlc, hcm, hel, hget, hspare, _⟩
  · exact ⟨m, H, [.slice none 0 0], [], .refl m, .refl H, hR, .cons (.sliceNil 0 0) .nil, hB _ _ _ SlR.nil⟩
  rw [hsz] at hget hspare
  -- the elements, one after the other
  have key : ∀ k, k ≤ len → ∃ m' H' gs ys us, PM.le m m' ∧ Ext H H' ∧ Rel P W.heap.size m' H' W ∧ VRs m' gs us ∧ CellsR A H' gs ys ∧ ys.length = k ∧ us.length = k * A.sz ∧ ∀ i, i < k * A.sz → W.cell? (a.add i) = us[i]? := by
    intro k
    induction k with
    | zero => intro _; exact ⟨m, H, [], [], [], .refl m, .refl H, hR, .nil, .nil, rfl, by simp, fun i hi => by omega⟩
    | succ k ih =>
      intro hk
      obtain ⟨m1, H1, gs, ys, us, g1, g2, g3, g4, g5, g6, g7, g8⟩ := ih (by omega)
      have hk1 := hget k (by omega)
      have hlt : k < elems.length := by omega
      rw [List.getElem?_eq_getElem hlt, Option.bind_eq_some_iff] at hk1
      obtain ⟨c1, hc1, ht1⟩ := hk1
      obtain ⟨hcl, hcc⟩ := cells_of hc1
      obtain ⟨m2, H2, gs2, y, q1, q2, q3, q4, q5⟩ := hA enc W n c1 _ ht1 m1 H1 g3
      refine ⟨m2, H2, gs ++ gs2, ys ++ [y], us ++ c1, g1.trans q1, g2.trans q2, q3, (g4.mono q1).append q4, (g5.mono q2).append (.one1 q5), by simp [g6], by rw [List.length_append, g7, hcl, Nat.succ_mul], fun i hi => ?_⟩
      rcases Nat.lt_or_ge i (k * A.sz) with hlt | hge
      · rw [g8 i hlt, List.getElem?_append_left (by omega)]
      · rw [List.getElem?_append_right (by omega), g7]
        rw [Nat.succ_mul] at hi
        rw [← hcc (i - k * A.sz) (by omega)]
        congr 1
        unfold Addr.add
        by_cases h0 : k * A.sz = 0
        · simp [h0]
        · rw [if_neg (by omega : ¬ i = 0), if_neg h0]
          by_cases h1 : i - k * A.sz = 0
          · rw [if_pos h1]; congr 1; omega
          · rw [if_neg h1]; congr 1; simp only; omega
  obtain ⟨m1, H1, gs, ys, us, g1, g2, g3, g4, g5, g6, g7, g8⟩ := key len (Nat.le_refl _)
  rcases Nat.eq_zero_or_pos cap with hc0 | hcp
  · -- it leads nowhere
    have hl0 : len = 0 := by omega
    subst hc0
    subst hl0
    have hys : ys = [] := List.length_eq_zero_iff.1 g6
    subst hys
    refine ⟨m1, H1.push (.row [] e true), [.slice (some ⟨H1.n, 0, none⟩) 0 0], [], g1, g2.push' _, g3.push_free _, .cons (.sliceD _ _ _) .nil, hB _ _ _ (.inr ⟨H1.n, 0, 0, [], e, true, [], rfl, GH.get_push_new, by simp, rfl, .nil⟩)⟩
  · -- the block is there
    have hcell0 : ∃ u, W.cell? (a.add 0) = some u := by
      rcases Nat.eq_zero_or_pos len with hl0 | hlp
      · obtain ⟨hrl, hrj⟩ := hspare rfl
        have h0 := hrj 0 (by omega)
        rw [List.getElem?_eq_getElem (by omega), Option.bind_eq_some_iff] at h0
        obtain ⟨c1, hc1, _⟩ := h0
        obtain ⟨hcl, hcc⟩ := cells_of hc1
        have := hcc 0 hpos
        rw [hl0, Nat.zero_add, Nat.zero_mul] at this
        exact ⟨c1[0], by rw [show (a.add 0).add 0 = a.add 0 from rfl] at this; rw [this, List.getElem?_eq_getElem (by omega)]⟩
      · have hp : 0 < len * A.sz := Nat.mul_pos hlp hpos
        exact ⟨us[0], by rw [g8 0 hp, List.getElem?_eq_getElem (by omega)]⟩
    obtain ⟨u0, hu0⟩ := hcell0
    obtain ⟨hspot, arr, tt, fr, hblk, _⟩ := cell_blk (a := a) hu0
    have hlt : a.block < W.heap.size := (Array.getElem?_eq_some_iff.1 hblk).1
    obtain ⟨B, off, spot⟩ := a
    simp only at hspot hblk hlt
    subst hspot
    have hro := g3.push_ro (sz := A.sz) (off := off) (gs := gs) (e := e) hblk hlt fun i u hu => by
      obtain ⟨u', h1, h2⟩ := g4.get? hu
      refine ⟨u', ?_, h2⟩
      have hi : i < us.length := (List.getElem?_eq_some_iff.1 h1).1
      have h3 := g8 i (by omega)
      rw [h1] at h3
      obtain ⟨_, arr', t', fr', h4, h5⟩ := cell_blk h3
      have e1 : (Addr.add ⟨B, off, none⟩ i).block = B := by unfold Addr.add; split <;> rfl
      have e2 : (Addr.add ⟨B, off, none⟩ i).off = off + i := by unfold Addr.add; split <;> simp_all
      rw [e1, hblk] at h4
      injection h4 with h4
      injection h4 with h4 _ _
      subst h4
      rw [e2] at h5
      exact h5
    have hgl := g5.length
    refine ⟨m1.put H1.n ⟨B, off, 0, A.sz, false⟩, H1.push (.row gs e true), [.slice (some ⟨H1.n, 0, none⟩) ys.length (loose + A.sz)], ys, g1.trans (g3.put_le _), g2.push' _, hro, .cons ?_ .nil, hB _ _ _ (.inr ⟨H1.n, 0, _, gs, e, true, gs, rfl, GH.get_push_new, by omega, by simp, g5.mono (.push _ _)⟩)⟩
    rw [g6]
    exact .sliceL (p := ⟨B, off, 0, A.sz, false⟩) 0 off len (loose + A.sz) cap (PM.put_same _ _ _) rfl hlc (fun _ => rfl) (fun hf => by cases hf)
end
end Go.Gh
