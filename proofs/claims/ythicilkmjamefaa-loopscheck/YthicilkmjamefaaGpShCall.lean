/- The ghost machine over functions in shallow form: the same calls, entered by the shallow form where there is one. -/
import Derived.Test.YthicilkmjamefaaGkTop
import Derived.Test.YthicilkmjamefaaGjCall
import Derived.Test.YthicilkmjamefaaGnData
namespace Go.Gh
set_option linter.unusedVariables false

/-- A function in shallow form. -/
abbrev Sh := Handle → Nat → List Value → GH → M (Value × GH)
/-- A call: a function that has a shallow form is entered by it. -/
noncomputable def sCall (P : Program) (T : Nat → Option Func) (S : Nat → Option Sh) : Nat → Handle
  | 0 => fun _ _ _ => none
  | k + 1 => fun fv args H =>
    match fv with
    | .func (.func f) first captured => match S f with
      | some sh => sh (sCall P T S k) k (first.toList ++ args ++ captured.toList) H
      | none => match T f with
        | some fn => gFunc P (sCall P T S k) k fn (first.toList ++ args ++ captured.toList) H
        | none => none
    | .func (.yield l) _ _ => gRound P (sCall P T S k) k l args H
    | _ => none
def ShOk (P : Program) (T : Nat → Option Func) (S : Nat → Option Sh) : Prop := ∀ f sh, S f = some sh → ∃ fn, T f = some fn ∧ ∀ call k args H, gFunc P call k fn args H = sh call k args H
theorem sCall_eq {P : Program} {T : Nat → Option Func} {S : Nat → Option Sh} (hS : ShOk P T S) : ∀ k, sCall P T S k = gCall P T k := by
  intro k
  induction k with
  | zero => rfl
  | succ k ih =>
    funext fv args H
    unfold sCall gCall
    rw [ih]
    cases fv with
    | func fid first captured =>
      cases fid with
      | func f =>
        simp only
        cases hs : S f with
        | none => cases T f <;> rfl
        | some sh =>
          obtain ⟨fn, h1, h2⟩ := hS f sh hs
          simp only [h1, h2]
      | _ => rfl
    | _ => rfl
noncomputable def sh0 (P : Program) (fn : Func) (f : Handle → Nat → GH → M (Value × GH)) : Sh := fun call k args H => match args with | [] => f call k  H | l => gFunc P call k fn l H
theorem sh0_eq {P : Program} {fn : Func} {f : Handle → Nat → GH → M (Value × GH)} (h : ∀ (call : Handle) (k : Nat) (H : GH), gFunc P call k fn [] H = f call k  H) (call : Handle) (k : Nat) (args : List Value) (H : GH) : gFunc P call k fn args H = sh0 P fn f call k args H := by
  unfold sh0
  split
  · exact h ..
  · rfl
noncomputable def sh1 (P : Program) (fn : Func) (f : Handle → Nat → Value → GH → M (Value × GH)) : Sh := fun call k args H => match args with | [a0] => f call k a0 H | l => gFunc P call k fn l H
theorem sh1_eq {P : Program} {fn : Func} {f : Handle → Nat → Value → GH → M (Value × GH)} (h : ∀ (call : Handle) (k : Nat) (a0 : Value) (H : GH), gFunc P call k fn [a0] H = f call k a0 H) (call : Handle) (k : Nat) (args : List Value) (H : GH) : gFunc P call k fn args H = sh1 P fn f call k args H := by
  unfold sh1
  split
  · exact h ..
  · rfl
noncomputable def sh2 (P : Program) (fn : Func) (f : Handle → Nat → Value → Value → GH → M (Value × GH)) : Sh := fun call k args H => match args with | [a0, a1] => f call k a0 a1 H | l => gFunc P call k fn l H
theorem sh2_eq {P : Program} {fn : Func} {f : Handle → Nat → Value → Value → GH → M (Value × GH)} (h : ∀ (call : Handle) (k : Nat) (a0 a1 : Value) (H : GH), gFunc P call k fn [a0, a1] H = f call k a0 a1 H) (call : Handle) (k : Nat) (args : List Value) (H : GH) : gFunc P call k fn args H = sh2 P fn f call k args H := by
  unfold sh2
  split
  · exact h ..
  · rfl
noncomputable def sh3 (P : Program) (fn : Func) (f : Handle → Nat → Value → Value → Value → GH → M (Value × GH)) : Sh := fun call k args H => match args with | [a0, a1, a2] => f call k a0 a1 a2 H | l => gFunc P call k fn l H
theorem sh3_eq {P : Program} {fn : Func} {f : Handle → Nat → Value → Value → Value → GH → M (Value × GH)} (h : ∀ (call : Handle) (k : Nat) (a0 a1 a2 : Value) (H : GH), gFunc P call k fn [a0, a1, a2] H = f call k a0 a1 a2 H) (call : Handle) (k : Nat) (args : List Value) (H : GH) : gFunc P call k fn args H = sh3 P fn f call k args H := by
  unfold sh3
  split
  · exact h ..
  · rfl
noncomputable def sh4 (P : Program) (fn : Func) (f : Handle → Nat → Value → Value → Value → Value → GH → M (Value × GH)) : Sh := fun call k args H => match args with | [a0, a1, a2, a3] => f call k a0 a1 a2 a3 H | l => gFunc P call k fn l H
theorem sh4_eq {P : Program} {fn : Func} {f : Handle → Nat → Value → Value → Value → Value → GH → M (Value × GH)} (h : ∀ (call : Handle) (k : Nat) (a0 a1 a2 a3 : Value) (H : GH), gFunc P call k fn [a0, a1, a2, a3] H = f call k a0 a1 a2 a3 H) (call : Handle) (k : Nat) (args : List Value) (H : GH) : gFunc P call k fn args H = sh4 P fn f call k args H := by
  unfold sh4
  split
  · exact h ..
  · rfl
noncomputable def sh5 (P : Program) (fn : Func) (f : Handle → Nat → Value → Value → Value → Value → Value → GH → M (Value × GH)) : Sh := fun call k args H => match args with | [a0, a1, a2, a3, a4] => f call k a0 a1 a2 a3 a4 H | l => gFunc P call k fn l H
theorem sh5_eq {P : Program} {fn : Func} {f : Handle → Nat → Value → Value → Value → Value → Value → GH → M (Value × GH)} (h : ∀ (call : Handle) (k : Nat) (a0 a1 a2 a3 a4 : Value) (H : GH), gFunc P call k fn [a0, a1, a2, a3, a4] H = f call k a0 a1 a2 a3 a4 H) (call : Handle) (k : Nat) (args : List Value) (H : GH) : gFunc P call k fn args H = sh5 P fn f call k args H := by
  unfold sh5
  split
  · exact h ..
  · rfl
noncomputable def sh6 (P : Program) (fn : Func) (f : Handle → Nat → Value → Value → Value → Value → Value → Value → GH → M (Value × GH)) : Sh := fun call k args H => match args with | [a0, a1, a2, a3, a4, a5] => f call k a0 a1 a2 a3 a4 a5 H | l => gFunc P call k fn l H
theorem sh6_eq {P : Program} {fn : Func} {f : Handle → Nat → Value → Value → Value → Value → Value → Value → GH → M (Value × GH)} (h : ∀ (call : Handle) (k : Nat) (a0 a1 a2 a3 a4 a5 : Value) (H : GH), gFunc P call k fn [a0, a1, a2, a3, a4, a5] H = f call k a0 a1 a2 a3 a4 a5 H) (call : Handle) (k : Nat) (args : List Value) (H : GH) : gFunc P call k fn args H = sh6 P fn f call k args H := by
  unfold sh6
  split
  · exact h ..
  · rfl
noncomputable def sh7 (P : Program) (fn : Func) (f : Handle → Nat → Value → Value → Value → Value → Value → Value → Value → GH → M (Value × GH)) : Sh := fun call k args H => match args with | [a0, a1, a2, a3, a4, a5, a6] => f call k a0 a1 a2 a3 a4 a5 a6 H | l => gFunc P call k fn l H
theorem sh7_eq {P : Program} {fn : Func} {f : Handle → Nat → Value → Value → Value → Value → Value → Value → Value → GH → M (Value × GH)} (h : ∀ (call : Handle) (k : Nat) (a0 a1 a2 a3 a4 a5 a6 : Value) (H : GH), gFunc P call k fn [a0, a1, a2, a3, a4, a5, a6] H = f call k a0 a1 a2 a3 a4 a5 a6 H) (call : Handle) (k : Nat) (args : List Value) (H : GH) : gFunc P call k fn args H = sh7 P fn f call k args H := by
  unfold sh7
  split
  · exact h ..
  · rfl
noncomputable def sh8 (P : Program) (fn : Func) (f : Handle → Nat → Value → Value → Value → Value → Value → Value → Value → Value → GH → M (Value × GH)) : Sh := fun call k args H => match args with | [a0, a1, a2, a3, a4, a5, a6, a7] => f call k a0 a1 a2 a3 a4 a5 a6 a7 H | l => gFunc P call k fn l H
theorem sh8_eq {P : Program} {fn : Func} {f : Handle → Nat → Value → Value → Value → Value → Value → Value → Value → Value → GH → M (Value × GH)} (h : ∀ (call : Handle) (k : Nat) (a0 a1 a2 a3 a4 a5 a6 a7 : Value) (H : GH), gFunc P call k fn [a0, a1, a2, a3, a4, a5, a6, a7] H = f call k a0 a1 a2 a3 a4 a5 a6 a7 H) (call : Handle) (k : Nat) (args : List Value) (H : GH) : gFunc P call k fn args H = sh8 P fn f call k args H := by
  unfold sh8
  split
  · exact h ..
  · rfl
noncomputable def sh9 (P : Program) (fn : Func) (f : Handle → Nat → Value → Value → Value → Value → Value → Value → Value → Value → Value → GH → M (Value × GH)) : Sh := fun call k args H => match args with | [a0, a1, a2, a3, a4, a5, a6, a7, a8] => f call k a0 a1 a2 a3 a4 a5 a6 a7 a8 H | l => gFunc P call k fn l H
theorem sh9_eq {P : Program} {fn : Func} {f : Handle → Nat → Value → Value → Value → Value → Value → Value → Value → Value → Value → GH → M (Value × GH)} (h : ∀ (call : Handle) (k : Nat) (a0 a1 a2 a3 a4 a5 a6 a7 a8 : Value) (H : GH), gFunc P call k fn [a0, a1, a2, a3, a4, a5, a6, a7, a8] H = f call k a0 a1 a2 a3 a4 a5 a6 a7 a8 H) (call : Handle) (k : Nat) (args : List Value) (H : GH) : gFunc P call k fn args H = sh9 P fn f call k args H := by
  unfold sh9
  split
  · exact h ..
  · rfl
noncomputable def sh10 (P : Program) (fn : Func) (f : Handle → Nat → Value → Value → Value → Value → Value → Value → Value → Value → Value → Value → GH → M (Value × GH)) : Sh := fun call k args H => match args with | [a0, a1, a2, a3, a4, a5, a6, a7, a8, a9] => f call k a0 a1 a2 a3 a4 a5 a6 a7 a8 a9 H | l => gFunc P call k fn l H
theorem sh10_eq {P : Program} {fn : Func} {f : Handle → Nat → Value → Value → Value → Value → Value → Value → Value → Value → Value → Value → GH → M (Value × GH)} (h : ∀ (call : Handle) (k : Nat) (a0 a1 a2 a3 a4 a5 a6 a7 a8 a9 : Value) (H : GH), gFunc P call k fn [a0, a1, a2, a3, a4, a5, a6, a7, a8, a9] H = f call k a0 a1 a2 a3 a4 a5 a6 a7 a8 a9 H) (call : Handle) (k : Nat) (args : List Value) (H : GH) : gFunc P call k fn args H = sh10 P fn f call k args H := by
  unfold sh10
  split
  · exact h ..
  · rfl
end Go.Gh
/- The ghost machine: fields of what lies somewhere, boxes, and a few rules that the walks share. -/
namespace Go.Gh
set_option linter.unusedVariables false
set_option linter.unusedSimpArgs false

section
variable {P : Program} {H H' : GH} {p v : Value} {cs : List Value} {t s f off sz : Nat}
theorem PtC.new (H : GH) (cs : List Value) (e : TypeId) (ro : Bool) : PtC (H.push (.row cs e ro)) (.pointer (some ⟨H.n, 0, none⟩)) cs :=
  ⟨H.n, 0, cs, e, ro, rfl, GH.get_push_new, by omega, by simp⟩
theorem PtC.of {b : Nat} {e : TypeId} {ro : Bool} (h : H.get b = some (.row cs e ro)) : PtC H (.pointer (some ⟨b, 0, none⟩)) cs := ⟨b, 0, cs, e, ro, rfl, h, by omega, by simp⟩
/-- A field of one cell. -/
theorem PtC.f1 (h : PtC H p cs) (hf : fdOk P s f off 1 = true) (ht : ldOk P t false 1 = true) (hc : cs[off]? = some v) : ∃ q, oFieldAddr P s p f = some q ∧ gLoad P t q H = some v := by
  have hlt := (List.getElem?_eq_some_iff.1 hc).1
  obtain ⟨q, h1, h2⟩ := h.field hf (by omega)
  refine ⟨q, h1, ?_⟩
  have e : (cs.drop off).take 1 = [v] := by
    rw [List.drop_eq_getElem_cons hlt, List.take_succ_cons, List.take_zero, (List.getElem?_eq_some_iff.1 hc).2]
  rw [e] at h2
  exact h2.load1 ht
/-- A field of several cells. -/
theorem PtC.fN (h : PtC H p cs) (hf : fdOk P s f off sz = true) (hl : off + sz ≤ cs.length) {ds : List Value} (hd : (cs.drop off).take sz = ds) : ∃ q, oFieldAddr P s p f = some q ∧ PtC H q ds := by
  obtain ⟨q, h1, h2⟩ := h.field hf hl
  rw [hd] at h2
  exact ⟨q, h1, h2⟩
/-- A variable that was just laid, and is set. -/
theorem box {row : List Value} {e : TypeId} (hs : gSize P t = some row.length) (hl : v.cells.toList = cs) (hr : cs.length = row.length) (ho : cs.all oneC = true) :
    ∃ H', gStore P t (.pointer (some ⟨H.n, 0, none⟩)) v (H.push (.row row e false)) = some H' ∧ Ext H H' ∧ H'.get H.n = some (.row cs e false) ∧ H'.n = H.n + 1 := by
  refine ⟨(H.push (.row row e false)).set H.n (.row cs e false), ?_, (Ext.push _ _).set (Nat.le_refl _) (Nat.lt_succ_self _) _, GH.get_set_same (GH.get_push_new (H := H)), rfl⟩
  unfold gStore
  have hsz : v.cells.size = row.length := by rw [← Array.length_toList, hl, hr]
  simp only [hs, hsz, if_true]
  unfold gStoreCells
  simp only [GH.get_push_new, hl]
  rw [if_pos ⟨by omega, ho⟩]
  unfold putAt
  rw [List.take_zero, List.nil_append, Nat.zero_add, hr, List.drop_length, List.append_nil]
/-- An element of an array. -/
theorem PtC.idx {n e : Nat} (h : PtC H p cs) (hu : P.underlying t = some (.array n e)) (hs : gSize P e = some sz) (hn : n * sz ≤ cs.length) {k : IntKind} {i : Nat} (hi : i < n) : ∃ q, oIndexAddr P t p (.int k i) = some q ∧ PtC H q ((cs.drop (i * sz)).take sz) := by
  obtain ⟨b, o, row, e', ro, rfl, h2, h3, h4⟩ := h
  have hm : (i + 1) * sz ≤ n * sz := Nat.mul_le_mul_right _ hi
  rw [Nat.succ_mul] at hm
  refine ⟨.pointer (some ⟨b, o + i * sz, none⟩), ?_, b, _, row, e', ro, rfl, h2, ?_, ?_⟩
  · unfold oIndexAddr
    simp only [hu]
    rw [if_pos ⟨by omega, by omega⟩, hs]
    simp only [Option.map_some, Int.toNat_natCast]
    unfold Addr.add
    by_cases h0 : i * sz = 0
    · simp [h0]
    · simp [h0]
  · simp only [List.length_take, List.length_drop]; omega
  · have e1 : ((cs.drop (i * sz)).take sz).length = sz := by simp only [List.length_take, List.length_drop]; omega
    rw [e1, ← List.drop_drop]
    conv => rhs; rw [← h4]
    rw [List.drop_take, List.take_take]
    congr 1
    omega
theorem PtC.idx1 {n e : Nat} (h : PtC H p cs) (hu : P.underlying t = some (.array n e)) (hs : ldOk P e false 1 = true) (hn : n ≤ cs.length) {k : IntKind} {i : Nat} (hi : i < n) (hv : cs[i]? = some v) : ∃ q, oIndexAddr P t p (.int k i) = some q ∧ gLoad P e q H = some v ∧ PtC H q [v] := by
  obtain ⟨q, h1, h2⟩ := h.idx hu (sz := 1) (ldOk_spec hs).2.2 (by omega) (k := k) hi
  have hlt := (List.getElem?_eq_some_iff.1 hv).1
  have e1 : (cs.drop (i * 1)).take 1 = [v] := by
    rw [Nat.mul_one, List.drop_eq_getElem_cons hlt, List.take_succ_cons, List.take_zero, (List.getElem?_eq_some_iff.1 hv).2]
  rw [e1] at h2
  exact ⟨q, h1, h2.load1 hs, h2⟩
theorem wrS {i : Nat} (h : i ≤ 1000000000) : IntKind.wrap .i64 ((i : Int) + 1) = ((i + 1 : Nat) : Int) := by rw [Go.IntWalk.i64_in _ (by omega)]; omega
theorem gSize_ld {agg : Bool} {n : Nat} (h : ldOk P t agg n = true) : gSize P t = some n := (ldOk_spec h).2.2
end

section
variable {β : Type} {Q : β → Prop}
theorem All.callE {call : Handle} {f : Value} {args : List Value} {H : GH} {R : Value × GH → Prop} {K : Value → GH → M β} (h : Ev (call f args H) R)
    (hK : ∀ v H', R (v, H') → All (K v H') Q) : All (onCall 0 call f args H K) Q := All.call0 h.all hK
theorem All.callS {call : Handle} {f : Value} {args : List Value} {H : GH} {R : Value → GH → Prop} {K : Value → GH → M β} (d : Nat) (h : Sp call f args H R)
    (hK : ∀ v H', Ext H H' → R v H' → All (K v H') Q) : All (onCall d call f args H K) Q := by
  unfold onCall
  split
  · obtain ⟨x, h1, h2, h3⟩ := h H.lo
    have h1 : call f args H = some [x] := h1
    rw [h1]
    exact hK x.1 x.2 h2 (h3 x.2.lo)
  · obtain ⟨⟨v, H1⟩, h1, h2, h3⟩ := h H.lo
    have h1 : call f args H = some [(v, H1)] := h1
    rw [h1]
    simp only
    rw [if_pos h2.n]
    exact hK v H1 h2 (h3 H1.lo)
  · obtain ⟨⟨v, H1⟩, h1, h2, h3⟩ := h H.n
    rw [h1]
    simp only
    obtain ⟨new, e1, e2⟩ := h2.ex
    simp only at e1 e2
    have h2l := h2.lo
    simp only [Nat.min_self] at h2l
    have e3 : H1.objs.take (H1.n - H.n) = new := by rw [e1, e2, Nat.add_sub_cancel_left, List.take_left]
    rw [if_pos ⟨h2l, by omega, by rw [e3]; omega⟩, e3, ← e1]
    refine hK v _ ⟨⟨new, e1, e2⟩, ?_⟩ (h3 _)
    show min H.lo H.n ≤ min H.lo H1.lo
    omega
theorem All.mk {v : β} (h : Q v) : All (some [v]) Q := All.ret h
/-- A call that comes to one outcome over every heap of this kind. -/
theorem Sp.of {call : Handle} {f : Value} {args : List Value} {H : GH} {R : Value → GH → Prop} (h : ∀ lo, Ev (call f args { H with lo := lo }) fun x => Ext { H with lo := lo } x.2 ∧ R x.1 x.2)
    (hR : ∀ v (H' : GH) lo', R v H' → R v { H' with lo := lo' }) : Sp call f args H R := fun lo => (h lo).mono fun x hx => ⟨hx.1, fun lo' => hR _ _ lo' hx.2⟩
end
/-- The low mark means nothing to what lies there. -/
theorem GH.get_lo (H : GH) (lo b : Nat) : GH.get { H with lo := lo } b = H.get b := rfl
section
variable {α : Type} {A : Ty α} {H : GH} {v : Value} {xs : List α}
/-- Data that hang on what lies in the heap alone. -/
def Ty.Gets (A : Ty α) : Prop := ∀ (H H' : GH) (cs : List Value) (x : α), (∀ b, H'.get b = H.get b) → A.rep H cs x → A.rep H' cs x
theorem CellsR.gets (hA : A.Gets) {H' : GH} (hg : ∀ b, H'.get b = H.get b) {cs : List Value} (h : CellsR A H cs xs) : CellsR A H' cs xs := by
  induction h with
  | nil => exact .nil
  | cons h t ih => exact .cons (hA _ _ _ _ hg h) ih
theorem SlR.gets (hA : A.Gets) {H' : GH} (hg : ∀ b, H'.get b = H.get b) (h : SlR A H v xs) : SlR A H' v xs := by
  rcases h with h | ⟨b, o, c, row, e, ro, cs, h1, h2, h3, h4, h5⟩
  · exact .inl h
  · exact .inr ⟨b, o, c, row, e, ro, cs, h1, (hg b).trans h2, h3, h4, h5.gets hA hg⟩
end
theorem SlR.lo {α : Type} {A : Ty α} {H : GH} {v : Value} {xs : List α} {lo : Nat} (h : SlR A H v xs) (hA : A.Gets) : SlR A { H with lo := lo } v xs := SlR.gets (H := H) (H' := { H with lo := lo }) hA (fun _ => rfl) h
/-- A slice, as an element. -/
def tySl {α : Type} (A : Ty α) : Ty (List α) where
  sz := 1
  rep H cs xs := ∃ v, cs = [v] ∧ SlR A H v xs
  len h := by obtain ⟨v, rfl, _⟩ := h; rfl
  one h := by obtain ⟨v, rfl, h⟩ := h; obtain ⟨a, c, rfl⟩ := h.val; rfl
  mono hE h := by obtain ⟨v, rfl, h⟩ := h; exact ⟨v, rfl, h.mono hE⟩
theorem tySl_gets {α : Type} {A : Ty α} (hA : A.Gets) : (tySl A).Gets := fun H H' cs xs hg ⟨v, h1, h2⟩ => ⟨v, h1, h2.gets hA hg⟩
theorem list2 {l : List Value} (h : l.length = 2) : ∃ a b, l = [a, b] := by
  match l, h with
  | [a, b], _ => exact ⟨a, b, rfl⟩
theorem list4 {l : List Value} (h : l.length = 4) : ∃ a b c d, l = [a, b, c, d] := by
  match l, h with
  | [a, b, c, d], _ => exact ⟨a, b, c, d, rfl⟩
end Go.Gh
/- The ghost machine: slices of a fixed capacity, of the call's own; stores into rows; what some builtin steps come to. -/
namespace Go.Gh
set_option linter.unusedVariables false
set_option linter.unusedSimpArgs false

section
variable {P : Program} {H H' : GH} {v y : Value} {row : List Value} {t e b o : Nat}
/-- A store of one cell into a row. -/
theorem store1 (h : H.get b = some (.row row e false)) (hs : gSize P t = some 1) (hv : v.cells.toList = [v]) (ho : oneC v = true) (hi : o < row.length) :
    gStore P t (.pointer (some ⟨b, o, none⟩)) v H = some (H.set b (.row (row.set o v) e false)) := by
  unfold gStore
  have hsz : v.cells.size = 1 := by rw [← Array.length_toList, hv]; rfl
  simp only [hs, hsz, if_true]
  unfold gStoreCells
  simp only [h, hv]
  rw [if_pos ⟨by rw [List.length_singleton]; omega, by simp [ho]⟩]
  have e2 : putAt row o [v] = row.set o v := by
    unfold putAt
    rw [List.length_singleton, List.set_eq_take_append_cons_drop, if_pos hi, List.append_assoc]
    rfl
  rw [e2]
/-- A store that takes the place of a whole row. -/
theorem storeAll {cs : List Value} {sz : Nat} (h : H.get b = some (.row row e false)) (hs : gSize P t = some sz) (h1 : row.length = sz) (hv : v.cells.toList = cs) (h2 : cs.length = sz) (ho : cs.all oneC = true) :
    gStore P t (.pointer (some ⟨b, 0, none⟩)) v H = some (H.set b (.row cs e false)) := by
  unfold gStore
  have hsz : v.cells.size = sz := by rw [← Array.length_toList, hv, h2]
  simp only [hs, hsz, if_true]
  unfold gStoreCells
  simp only [h, hv]
  rw [if_pos ⟨by omega, ho⟩]
  unfold putAt
  rw [List.take_zero, List.nil_append, Nat.zero_add, h2, ← h1, List.drop_length, List.append_nil]
theorem gResL1 {p : Value} : gResL P H [(p, some t)] = gLoad P t p H := by
  unfold gResL
  simp only [List.mapM_cons, List.mapM_nil, gRes1]
  cases gLoad P t p H <;> rfl
end

/-- A slice of the call's own with room for N elements. -/
structure Fix {α : Type} (A : Ty α) (e : TypeId) (N b : Nat) (H : GH) (v : Value) (xs : List α) : Prop where
  val : v = .slice (some ⟨b, 0, none⟩) xs.length N
  ex : ∃ row cs, H.get b = some (.row row e false) ∧ row.length = N * A.sz ∧ CellsR A H cs xs ∧ row.take cs.length = cs
  le : xs.length ≤ N
section
variable {α : Type} {A : Ty α} {P : Program} {H H' : GH} {v y : Value} {xs ys : List α} {st xt e e' N b : Nat} {new : List Value}
theorem Fix.lt (h : Fix A e N b H v xs) : b < H.n := by obtain ⟨row, cs, h1, _⟩ := h.ex; exact GH.get_lt h1
theorem Fix.slr (h : Fix A e N b H v xs) : SlR A H v xs := by
  obtain ⟨row, cs, h1, h2, h3, h4⟩ := h.ex
  refine .inr ⟨b, 0, N, row, e, false, cs, h.val, h1, ?_, by rw [List.drop_zero]; exact h4, h3⟩
  have := h3.length
  have := Nat.mul_le_mul_right A.sz h.le
  omega
theorem Fix.ext (hE : Ext H H') (h : Fix A e N b H v xs) : Fix A e N b H' v xs := by
  obtain ⟨row, cs, h1, h2, h3, h4⟩ := h.ex
  exact ⟨h.val, ⟨row, cs, hE.get_of h1, h2, h3.mono hE, h4⟩, h.le⟩
theorem CellsR.keep (hk : ∀ cs x, A.rep H cs x → A.rep H' cs x) {cs : List Value} (h : CellsR A H cs xs) : CellsR A H' cs xs := by
  induction h with
  | nil => exact .nil
  | cons h t ih => exact .cons (hk _ _ h) ih
theorem Fix.keep (hg : H'.get b = H.get b) (hk : ∀ cs x, A.rep H cs x → A.rep H' cs x) (h : Fix A e N b H v xs) : Fix A e N b H' v xs := by
  obtain ⟨row, cs, h1, h2, h3, h4⟩ := h.ex
  exact ⟨h.val, ⟨row, cs, hg.trans h1, h2, h3.keep hk, h4⟩, h.le⟩
theorem repeated_len {z : List Value} {n : Nat} : (repeated z n).length = n * z.length := by
  unfold repeated
  induction n with
  | zero => simp
  | succ n ih => rw [List.replicate_succ, List.flatten_cons, List.length_append, ih, Nat.succ_mul, Nat.add_comm]
theorem Fix.make (hst : P.underlying st = some (.slice e)) (he : elemOk P e A.sz = true) (hN : N ≤ 1000000000) {k k' : IntKind} :
    ∃ row, gMakeSlice P st (.int k 0) (.int k' N) H = some (.slice (some ⟨H.n, 0, none⟩) 0 N, H.push (.row row e false)) ∧ Fix A e N H.n (H.push (.row row e false)) (.slice (some ⟨H.n, 0, none⟩) 0 N) [] := by
  obtain ⟨i, z, hi, hz, hsz, hb0, hb1, hzc, hpos⟩ := elemOk_spec he
  refine ⟨repeated z.cells.toList N, ?_, rfl, ⟨_, [], GH.get_push_new, ?_, .nil, rfl⟩, Nat.zero_le _⟩
  · unfold gMakeSlice
    simp only [hst, hi, hz, Int.toNat_natCast, Int.toNat_zero]
    rw [if_pos ⟨Int.le_refl _, by omega, roomy_of hN hb1, by omega, by omega⟩]
  · rw [repeated_len, Array.length_toList, hzc]
theorem Fix.append (h : Fix A e N b H v xs) (hst : P.underlying st = some (.slice e)) (hxt : P.underlying xt = some (.slice e')) (he : elemOk P e A.sz = true) (hN : N ≤ 1000000000)
    (hy : ∃ a c, y = .slice a ys.length c) (hf : gFirst A.sz ys.length y H = some new) (hc : CellsR A H new ys) (h0 : 0 < ys.length) (hn : xs.length + ys.length ≤ N)
    (hk : ∀ row' cs x, A.rep H cs x → A.rep (H.set b (.row row' e false)) cs x) :
    ∃ row', gAppend P st xt v y H = some (.slice (some ⟨b, 0, none⟩) (xs.length + ys.length) N, H.set b (.row row' e false)) ∧ Fix A e N b (H.set b (.row row' e false)) (.slice (some ⟨b, 0, none⟩) (xs.length + ys.length) N) (xs ++ ys) := by
  obtain ⟨i, z, hi, hz, hsz, hb0, hb1, hzc, hpos⟩ := elemOk_spec he
  obtain ⟨ya, yc, rfl⟩ := hy
  have hnl : new.length = ys.length * A.sz := hc.length
  have hap : gAppended P xt i z (.slice ya ys.length yc) H = some (ys.length, new) := by
    unfold gAppended
    simp only [hxt, hsz, hf]
    rfl
  have hroom : (roomy (xs.length + ys.length) i.bytes && new.all oneC && new.length == ys.length * i.size && z.cells.size == i.size && decide (0 < i.size) && decide (0 < i.bytes)) = true := by
    rw [roomy_of (by omega) hb1, hc.all, hsz]
    simp [hnl, hzc, hpos, hb0]
  obtain ⟨rfl, ⟨row, cs, h1, h2, h3, h4⟩, hle⟩ := h
  have hcl := h3.length
  have hmul : (xs.length + ys.length) * A.sz ≤ N * A.sz := Nat.mul_le_mul_right _ hn
  rw [Nat.add_mul] at hmul
  have hset := GH.get_set_same (o := .row (putAt row (xs.length * A.sz) new) e false) h1
  refine ⟨putAt row (xs.length * A.sz) new, ?_, by rw [List.length_append], ⟨putAt row (xs.length * A.sz) new, cs ++ new, hset, ?_, (h3.keep (hk _)).append (hc.keep (hk _)), ?_⟩, by rw [List.length_append]; exact hn⟩
  · unfold gAppend
    simp only [hst, hi, hz, hap, hroom, if_true]
    rw [if_neg (by omega), if_pos (by unfold loose; omega), if_pos hn]
    unfold gStoreCells
    simp only [h1, hsz, Nat.zero_add]
    rw [if_pos ⟨by omega, hc.all⟩]
    rfl
  · unfold putAt
    rw [List.length_append, List.length_append, List.length_take, List.length_drop]
    omega
  · unfold putAt
    rw [List.length_append, ← hcl, h4, List.append_assoc, ← List.append_assoc, ← List.length_append, List.take_left]
/-- The same slice, shorter. -/
theorem CellsR.take {cs : List Value} (h : CellsR A H cs xs) (n : Nat) : CellsR A H (cs.take ((xs.take n).length * A.sz)) (xs.take n) := by
  induction h generalizing n with
  | nil => simp; exact .nil
  | @cons c cs x xs h t ih =>
    cases n with
    | zero => simp; exact .nil
    | succ n =>
      have := CellsR.cons h (ih n)
      rw [List.take_succ_cons, List.length_cons, Nat.succ_mul, Nat.add_comm, List.take_append, A.len h, Nat.add_sub_cancel_left, List.take_of_length_le (by rw [A.len h]; omega)]
      exact this
theorem Fix.shrink (h : Fix A e N b H v xs) (hst : P.underlying st = some (.slice e)) (hs : gSize P e = some A.sz) (hN : N ≤ 1000000000) {n : Nat} (hn : n ≤ xs.length) (hn0 : 0 < N) {k k' : IntKind} :
    oSlice P st v none (some (.int k n)) (some (.int k' N)) = some (.slice (some ⟨b, 0, none⟩) n N) ∧ Fix A e N b H (.slice (some ⟨b, 0, none⟩) n N) (xs.take n) := by
  obtain ⟨rfl, ⟨row, cs, h1, h2, h3, h4⟩, hle⟩ := h
  have hl : (xs.take n).length = n := by rw [List.length_take]; omega
  refine ⟨?_, by rw [hl], ⟨row, _, h1, h2, h3.take n, ?_⟩, by omega⟩
  · unfold oSlice
    simp only [hst, hs]
    unfold gSliceSl optB gBound
    simp only
    rw [if_neg (by unfold loose; omega)]
    simp only [Int.toNat_natCast]
    rw [if_pos ⟨by omega, by omega⟩]
    simp only
    rw [if_pos ⟨by omega, by omega⟩]
    simp only [Nat.sub_zero, Nat.zero_mul]
    have : Addr.add ⟨b, 0, none⟩ 0 = ⟨b, 0, none⟩ := rfl
    rw [this]
    simp
  · have hcl := h3.length
    have : n * A.sz ≤ xs.length * A.sz := Nat.mul_le_mul_right _ hn
    rw [hl, List.length_take, Nat.min_eq_left (by omega)]
    conv => rhs; rw [← h4]
    rw [List.take_take, Nat.min_eq_left (by omega)]
theorem Fix.cap (h : Fix A e N b H v xs) (hst : P.underlying st = some (.slice e)) (hN : N ≤ 1000000000) : oCap P st v = some (.int .i64 N) := by
  rw [h.val]
  unfold oCap
  simp only [hst]
  rw [if_pos (by unfold loose; omega)]
end
end Go.Gh
/- The ghost machine: copies of slices (append to an empty one), clipped ones; slices whose rows bear a type. -/
namespace Go.Gh
set_option linter.unusedVariables false
set_option linter.unusedSimpArgs false

/-- A slice that holds these, whose row bears this type. -/
def SlE {α : Type} (A : Ty α) (e : TypeId) (H : GH) (v : Value) (xs : List α) : Prop :=
  (v = .slice none 0 0 ∧ xs = []) ∨ ∃ b o c row ro cs, v = .slice (some ⟨b, o, none⟩) xs.length c ∧ H.get b = some (.row row e ro) ∧ o + cs.length ≤ row.length ∧ (row.drop o).take cs.length = cs ∧ CellsR A H cs xs
/-- A copy: new since H0, a row of its own. -/
def Cl {α : Type} (A : Ty α) (e : TypeId) (H0 H : GH) (v : Value) (xs : List α) : Prop :=
  (v = .slice none 0 0 ∧ xs = []) ∨ ∃ b c cs, v = .slice (some ⟨b, 0, none⟩) xs.length c ∧ H0.n ≤ b ∧ H.get b = some (.row cs e false) ∧ CellsR A H cs xs ∧ ((c = loose + A.sz ∧ xs.length < loose) ∨ (c < loose ∧ xs.length ≤ c))
section
variable {α : Type} {A : Ty α} {P : Program} {H H' H0 : GH} {v y : Value} {xs ys : List α} {t e : Nat}
theorem SlE.slr (h : SlE A e H v xs) : SlR A H v xs := by
  rcases h with h | ⟨b, o, c, row, ro, cs, h1, h2, h3, h4, h5⟩
  · exact .inl h
  · exact .inr ⟨b, o, c, row, e, ro, cs, h1, h2, h3, h4, h5⟩
theorem Cl.sle (h : Cl A e H0 H v xs) : SlE A e H v xs := by
  rcases h with h | ⟨b, c, cs, h1, _, h2, h3, _⟩
  · exact .inl h
  · exact .inr ⟨b, 0, c, cs, false, cs, h1, h2, by omega, by simp, h3⟩
theorem Cl.slr (h : Cl A e H0 H v xs) : SlR A H v xs := h.sle.slr
theorem Cl.ext (hE : Ext H H') (h : Cl A e H0 H v xs) : Cl A e H0 H' v xs := by
  rcases h with h | ⟨b, c, cs, h1, h2, h3, h4, h5⟩
  · exact .inl h
  · exact .inr ⟨b, c, cs, h1, h2, hE.get_of h3, h4.mono hE, h5⟩
theorem Cl.gets (hA : A.Gets) (hg : ∀ b, H'.get b = H.get b) (h : Cl A e H0 H v xs) : Cl A e H0 H' v xs := by
  rcases h with h | ⟨b, c, cs, h1, h2, h3, h4, h5⟩
  · exact .inl h
  · exact .inr ⟨b, c, cs, h1, h2, (hg b).trans h3, h4.gets hA hg, h5⟩
theorem Cl.lo {lo : Nat} (h : Cl A e H0 H v xs) (hA : A.Gets) : Cl A e H0 { H with lo := lo } v xs := Cl.gets (H := H) (H' := { H with lo := lo }) hA (fun _ => rfl) h
theorem SlE.mono (hE : Ext H H') (h : SlE A e H v xs) : SlE A e H' v xs := by
  rcases h with h | ⟨b, o, c, row, ro, cs, h1, h2, h3, h4, h5⟩
  · exact .inl h
  · exact .inr ⟨b, o, c, row, ro, cs, h1, hE.get_of h2, h3, h4, h5.mono hE⟩
theorem SlE.gets (hA : A.Gets) (hg : ∀ b, H'.get b = H.get b) (h : SlE A e H v xs) : SlE A e H' v xs := by
  rcases h with h | ⟨b, o, c, row, ro, cs, h1, h2, h3, h4, h5⟩
  · exact .inl h
  · exact .inr ⟨b, o, c, row, ro, cs, h1, (hg b).trans h2, h3, h4, h5.gets hA hg⟩
/-- Where the rows of this type stand as they were. -/
theorem SlE.keep (hA : A.Flat) (hk : ∀ b row ro, H.get b = some (.row row e ro) → H'.get b = H.get b) (h : SlE A e H v xs) : SlE A e H' v xs := by
  rcases h with h | ⟨b, o, c, row, ro, cs, h1, h2, h3, h4, h5⟩
  · exact .inl h
  · exact .inr ⟨b, o, c, row, ro, cs, h1, (hk _ _ _ h2).trans h2, h3, h4, h5.flat hA⟩
theorem SlE.val (h : SlE A e H v xs) : ∃ a c, v = .slice a xs.length c := h.slr.val
theorem nilEq {a : Option Addr} {n c e' : Nat} (hu : P.underlying t = some (.slice e')) : (oBin P .eql t (.slice a n c) (.slice none 0 0)).filter closed = some (.bool a.isNone) := by
  have h : ∀ a n c, gNilFits P t (.slice a n c) = true := fun a n c => by unfold gNilFits; rw [hu]
  unfold oBin
  simp only [h, Bool.and_self, if_true]
  cases a <;> rfl
theorem nilNe {a : Option Addr} {n c e' : Nat} (hu : P.underlying t = some (.slice e')) : (oBin P .neq t (.slice a n c) (.slice none 0 0)).filter closed = some (.bool !a.isNone) := by
  have h : ∀ a n c, gNilFits P t (.slice a n c) = true := fun a n c => by unfold gNilFits; rw [hu]
  unfold oBin
  simp only [h, Bool.and_self, if_true]
  cases a <;> rfl
/-- An append to an empty slice that was just built. -/
theorem app_clone {xt e' : Nat} (hy : SlR A H y ys) (hst : P.underlying t = some (.slice e)) (hxt : P.underlying xt = some (.slice e')) (he : elemOk P e A.sz = true) (hn : ys.length ≤ 1000000000) :
    ∃ v' H', gAppend P t xt (.slice (some ⟨H.n, 0, none⟩) 0 0) y (H.push (.row [] e false)) = some (v', H') ∧ Ext H H' ∧ Cl A e H H' v' ys := by
  obtain ⟨i, z, hi, hz, hsz, hb0, hb1, hzc, hpos⟩ := elemOk_spec he
  have hE := Ext.push H (.row [] e false)
  have hy1 := hy.mono hE
  obtain ⟨new, hf, hc⟩ := hy1.first
  obtain ⟨ya, yc, rfl⟩ := hy.val
  have hnl : new.length = ys.length * A.sz := hc.length
  have hap : gAppended P xt i z (.slice ya ys.length yc) (H.push (.row [] e false)) = some (ys.length, new) := by
    unfold gAppended
    simp only [hxt, hsz, hf]
    rfl
  have hroom : (roomy (0 + ys.length) i.bytes && new.all oneC && new.length == ys.length * i.size && z.cells.size == i.size && decide (0 < i.size) && decide (0 < i.bytes)) = true := by
    rw [roomy_of (by omega) hb1, hc.all, hsz]
    simp [hnl, hzc, hpos, hb0]
  have hfirst : gFirst A.sz 0 (.slice (some ⟨H.n, 0, none⟩) 0 0) (H.push (.row [] e false)) = some [] := by
    unfold gFirst
    simp [GH.get_push_new]
  by_cases h0 : ys.length = 0
  · have hys : ys = [] := List.length_eq_zero_iff.1 h0
    subst hys
    refine ⟨.slice (some ⟨H.n, 0, none⟩) 0 0, _, ?_, hE, .inr ⟨H.n, 0, [], rfl, Nat.le_refl _, GH.get_push_new, .nil, .inr ⟨by unfold loose; omega, by simp⟩⟩⟩
    unfold gAppend
    simp only [hst, hi, hz, hap, hroom, if_true]
    rw [if_pos h0]
  · refine ⟨.slice (some ⟨(H.push (.row [] e false)).n, 0, none⟩) ys.length (loose + A.sz), (H.push (.row [] e false)).push (.row new e false), ?_, hE.push' _, .inr ⟨_, _, new, rfl, Nat.le_succ _, GH.get_push_new, hc.mono (Ext.push _ _), .inl ⟨rfl, by unfold loose; omega⟩⟩⟩
    unfold gAppend
    simp only [hst, hi, hz, hap, hroom, if_true]
    rw [if_neg h0, if_pos (by unfold loose; omega), if_neg (by omega)]
    simp only [hsz, Nat.zero_mul, hfirst, List.length_nil, if_true, Nat.zero_add, List.nil_append]
theorem clip_val {a : Option Addr} {n c : Nat} (hst : P.underlying t = some (.slice e)) (hs : gSize P e = some A.sz) (ha : a = none → n = 0 ∧ c = 0) (hc : a ≠ none → (c = loose + A.sz ∧ n < loose) ∨ (c < loose ∧ n ≤ c)) {k k' : IntKind} :
    oSlice P t (.slice a n c) none (some (.int k n)) (some (.int k' n)) = some (.slice a n (if a = none then 0 else n)) := by
  unfold oSlice
  simp only [hst, hs]
  unfold gSliceSl
  cases a with
  | none =>
    obtain ⟨rfl, rfl⟩ := ha rfl
    simp only [optB, gBound]
    simp
  | some a =>
    simp only
    rcases hc (by simp) with ⟨rfl, hn⟩ | ⟨h1, h2⟩
    · rw [if_pos (by omega), if_pos ⟨rfl, hn⟩]
      simp only [gBound, optB]
      rw [if_pos ⟨by omega, by omega⟩]
      simp only [Int.toNat_natCast]
      rw [if_pos ⟨by omega, by omega⟩]
      simp [Addr.add]
    · rw [if_neg (by omega)]
      simp only [gBound, optB]
      rw [if_pos ⟨by omega, by omega⟩]
      simp only [Int.toNat_natCast]
      rw [if_pos ⟨by omega, by omega⟩]
      simp [Addr.add]
theorem Cl.clip (h : Cl A e H0 H v xs) {e1 : Nat} (hst : P.underlying t = some (.slice e1)) (hs : gSize P e1 = some A.sz) (hn : xs.length ≤ 1000000000) {k k' : IntKind} :
    ∃ v', oSlice P t v none (some (.int k xs.length)) (some (.int k' xs.length)) = some v' ∧ Cl A e H0 H v' xs := by
  rcases h with ⟨rfl, rfl⟩ | ⟨b, c, cs, rfl, h2, h3, h4, h5⟩
  · exact ⟨_, clip_val (A := A) (n := 0) hst hs (fun _ => ⟨rfl, rfl⟩) (fun h => absurd rfl h), .inl ⟨rfl, rfl⟩⟩
  · refine ⟨_, clip_val (A := A) hst hs (fun h => by cases h) (fun _ => h5), .inr ⟨b, _, cs, rfl, h2, h3, h4, .inr ?_⟩⟩
    simp only [reduceCtorEq, if_false]
    exact ⟨by unfold loose; omega, Nat.le_refl _⟩
theorem Cl.oLen (h : Cl A e H0 H v xs) {e1 : Nat} (hu : P.underlying t = some (.slice e1)) : oLen P t v = some (.int .i64 xs.length) := h.slr.oLen hu
end
end Go.Gh
