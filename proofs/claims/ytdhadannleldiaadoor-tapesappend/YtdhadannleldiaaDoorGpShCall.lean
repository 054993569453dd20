/- The ghost machine over functions in shallow form: the same calls, entered by the shallow form where there is one. -/
import Derived.Test.YtdhadannleldiaaDoorGkTop
import Derived.Test.YtdhadannleldiaaDoorGjCall
import Derived.Test.YtdhadannleldiaaDoorGnData
namespace Go.Gh
set_option linter.unusedVariables false

/-- A function in shallow form. -/
abbrev Sh := Handle → Nat → List Value → GH → M (Value × GH)
/-- A call: a function that has a shallow form is entered by it. -/
noncomputable def sCall (P : Program) (T : Nat → Option Func) (S : Nat → Option Sh) : Nat → Handle
  | 0 => fun _ _ _ => none
  | k + 1 => fun fv args H =>
    match fv with
    | .func (.func f) first captured => match S f with
      | some sh => sh (sCall P T S k) k (first.toList ++ args ++ captured.toList) H
      | none => match T f with
        | some fn => gFunc P (sCall P T S k) k fn (first.toList ++ args ++ captured.toList) H
        | none => none
    | .func (.yield l) _ _ => gRound P (sCall P T S k) k l args H
    | _ => none
def ShOk (P : Program) (T : Nat → Option Func) (S : Nat → Option Sh) : Prop := ∀ f sh, S f = some sh → ∃ fn, T f = some fn ∧ ∀ call k args H, gFunc P call k fn args H = sh call k args H
theorem sCall_eq {P : Program} {T : Nat → Option Func} {S : Nat → Option Sh} (hS : ShOk P T S) : ∀ k, sCall P T S k = gCall P T k := by
  intro k
  induction k with
  | zero => rfl
  | succ k ih =>
    funext fv args H
    unfold sCall gCall
    rw [ih]
    cases fv with
    | func fid first captured =>
      cases fid with
      | func f =>
        simp only
        cases hs : S f with
        | none => cases T f <;> rfl
        | some sh =>
          obtain ⟨fn, h1, h2⟩ := hS f sh hs
          simp only [h1, h2]
      | _ => rfl
    | _ => rfl
noncomputable def sh0 (P : Program) (fn : Func) (f : Handle → Nat → GH → M (Value × GH)) : Sh := fun call k args H => match args with | [] => f call k  H | l => gFunc P call k fn l H
theorem sh0_eq {P : Program} {fn : Func} {f : Handle → Nat → GH → M (Value × GH)} (h : ∀ (call : Handle) (k : Nat) (H : GH), gFunc P call k fn [] H = f call k  H) (call : Handle) (k : Nat) (args : List Value) (H : GH) : gFunc P call k fn args H = sh0 P fn f call k args H := by
  unfold sh0
  split
  · exact h ..
  · rfl
noncomputable def sh1 (P : Program) (fn : Func) (f : Handle → Nat → Value → GH → M (Value × GH)) : Sh := fun call k args H => match args with | [a0] => f call k a0 H | l => gFunc P call k fn l H
theorem sh1_eq {P : Program} {fn : Func} {f : Handle → Nat → Value → GH → M (Value × GH)} (h : ∀ (call : Handle) (k : Nat) (a0 : Value) (H : GH), gFunc P call k fn [a0] H = f call k a0 H) (call : Handle) (k : Nat) (args : List Value) (H : GH) : gFunc P call k fn args H = sh1 P fn f call k args H := by
  unfold sh1
  split
  · exact h ..
  · rfl
noncomputable def sh2 (P : Program) (fn : Func) (f : Handle → Nat → Value → Value → GH → M (Value × GH)) : Sh := fun call k args H => match args with | [a0, a1] => f call k a0 a1 H | l => gFunc P call k fn l H
theorem sh2_eq {P : Program} {fn : Func} {f : Handle → Nat → Value → Value → GH → M (Value × GH)} (h : ∀ (call : Handle) (k : Nat) (a0 a1 : Value) (H : GH), gFunc P call k fn [a0, a1] H = f call k a0 a1 H) (call : Handle) (k : Nat) (args : List Value) (H : GH) : gFunc P call k fn args H = sh2 P fn f call k args H := by
  unfold sh2
  split
  · exact h ..
  · rfl
noncomputable def sh3 (P : Program) (fn : Func) (f : Handle → Nat → Value → Value → Value → GH → M (Value × GH)) : Sh := fun call k args H => match args with | [a0, a1, a2] => f call k a0 a1 a2 H | l => gFunc P call k fn l H
theorem sh3_eq {P : Program} {fn : Func} {f : Handle → Nat → Value → Value → Value → GH → M (Value × GH)} (h : ∀ (call : Handle) (k : Nat) (a0 a1 a2 : Value) (H : GH), gFunc P call k fn [a0, a1, a2] H = f call k a0 a1 a2 H) (call : Handle) (k : Nat) (args : List Value) (H : GH) : gFunc P call k fn args H = sh3 P fn f call k args H := by
  unfold sh3
  split
  · exact h ..
  · rfl
noncomputable def sh4 (P : Program) (fn : Func) (f : Handle → Nat → Value → Value → Value → Value → GH → M (Value × GH)) : Sh := fun call k args H => match args with | [a0, a1, a2, a3] => f call k a0 a1 a2 a3 H | l => gFunc P call k fn l H
theorem sh4_eq {P : Program} {fn : Func} {f : Handle → Nat → Value → Value → Value → Value → GH → M (Value × GH)} (h : ∀ (call : Handle) (k : Nat) (a0 a1 a2 a3 : Value) (H : GH), gFunc P call k fn [a0, a1, a2, a3] H = f call k a0 a1 a2 a3 H) (call : Handle) (k : Nat) (args : List Value) (H : GH) : gFunc P call k fn args H = sh4 P fn f call k args H := by
  unfold sh4
  split
  · exact h ..
  · rfl
noncomputable def sh5 (P : Program) (fn : Func) (f : Handle → Nat → Value → Value → Value → Value → Value → GH → M (Value × GH)) : Sh := fun call k args H => match args with | [a0, a1, a2, a3, a4] => f call k a0 a1 a2 a3 a4 H | l => gFunc P call k fn l H
theorem sh5_eq {P : Program} {fn : Func} {f : Handle → Nat → Value → Value → Value → Value → Value → GH → M (Value × GH)} (h : ∀ (call : Handle) (k : Nat) (a0 a1 a2 a3 a4 : Value) (H : GH), gFunc P call k fn [a0, a1, a2, a3, a4] H = f call k a0 a1 a2 a3 a4 H) (call : Handle) (k : Nat) (args : List Value) (H : GH) : gFunc P call k fn args H = sh5 P fn f call k args H := by
  unfold sh5
  split
  · exact h ..
  · rfl
noncomputable def sh6 (P : Program) (fn : Func) (f : Handle → Nat → Value → Value → Value → Value → Value → Value → GH → M (Value × GH)) : Sh := fun call k args H => match args with | [a0, a1, a2, a3, a4, a5] => f call k a0 a1 a2 a3 a4 a5 H | l => gFunc P call k fn l H
theorem sh6_eq {P : Program} {fn : Func} {f : Handle → Nat → Value → Value → Value → Value → Value → Value → GH → M (Value × GH)} (h : ∀ (call : Handle) (k : Nat) (a0 a1 a2 a3 a4 a5 : Value) (H : GH), gFunc P call k fn [a0, a1, a2, a3, a4, a5] H = f call k a0 a1 a2 a3 a4 a5 H) (call : Handle) (k : Nat) (args : List Value) (H : GH) : gFunc P call k fn args H = sh6 P fn f call k args H := by
  unfold sh6
  split
  · exact h ..
  · rfl
noncomputable def sh7 (P : Program) (fn : Func) (f : Handle → Nat → Value → Value → Value → Value → Value → Value → Value → GH → M (Value × GH)) : Sh := fun call k args H => match args with | [a0, a1, a2, a3, a4, a5, a6] => f call k a0 a1 a2 a3 a4 a5 a6 H | l => gFunc P call k fn l H
theorem sh7_eq {P : Program} {fn : Func} {f : Handle → Nat → Value → Value → Value → Value → Value → Value → Value → GH → M (Value × GH)} (h : ∀ (call : Handle) (k : Nat) (a0 a1 a2 a3 a4 a5 a6 : Value) (H : GH), gFunc P call k fn [a0, a1, a2, a3, a4, a5, a6] H = f call k a0 a1 a2 a3 a4 a5 a6 H) (call : Handle) (k : Nat) (args : List Value) (H : GH) : gFunc P call k fn args H = sh7 P fn f call k args H := by
  unfold sh7
  split
  · exact h ..
  · rfl
noncomputable def sh8 (P : Program) (fn : Func) (f : Handle → Nat → Value → Value → Value → Value → Value → Value → Value → Value → GH → M (Value × GH)) : Sh := fun call k args H => match args with | [a0, a1, a2, a3, a4, a5, a6, a7] => f call k a0 a1 a2 a3 a4 a5 a6 a7 H | l => gFunc P call k fn l H
theorem sh8_eq {P : Program} {fn : Func} {f : Handle → Nat → Value → Value → Value → Value → Value → Value → Value → Value → GH → M (Value × GH)} (h : ∀ (call : Handle) (k : Nat) (a0 a1 a2 a3 a4 a5 a6 a7 : Value) (H : GH), gFunc P call k fn [a0, a1, a2, a3, a4, a5, a6, a7] H = f call k a0 a1 a2 a3 a4 a5 a6 a7 H) (call : Handle) (k : Nat) (args : List Value) (H : GH) : gFunc P call k fn args H = sh8 P fn f call k args H := by
  unfold sh8
  split
  · exact h ..
  · rfl
noncomputable def sh9 (P : Program) (fn : Func) (f : Handle → Nat → Value → Value → Value → Value → Value → Value → Value → Value → Value → GH → M (Value × GH)) : Sh := fun call k args H => match args with | [a0, a1, a2, a3, a4, a5, a6, a7, a8] => f call k a0 a1 a2 a3 a4 a5 a6 a7 a8 H | l => gFunc P call k fn l H
theorem sh9_eq {P : Program} {fn : Func} {f : Handle → Nat → Value → Value → Value → Value → Value → Value → Value → Value → Value → GH → M (Value × GH)} (h : ∀ (call : Handle) (k : Nat) (a0 a1 a2 a3 a4 a5 a6 a7 a8 : Value) (H : GH), gFunc P call k fn [a0, a1, a2, a3, a4, a5, a6, a7, a8] H = f call k a0 a1 a2 a3 a4 a5 a6 a7 a8 H) (call : Handle) (k : Nat) (args : List Value) (H : GH) : gFunc P call k fn args H = sh9 P fn f call k args H := by
  unfold sh9
  split
  · exact h ..
  · rfl
noncomputable def sh10 (P : Program) (fn : Func) (f : Handle → Nat → Value → Value → Value → Value → Value → Value → Value → Value → Value → Value → GH → M (Value × GH)) : Sh := fun call k args H => match args with | [a0, a1, a2, a3, a4, a5, a6, a7, a8, a9] => f call k a0 a1 a2 a3 a4 a5 a6 a7 a8 a9 H | l => gFunc P call k fn l H
theorem sh10_eq {P : Program} {fn : Func} {f : Handle → Nat → Value → Value → Value → Value → Value → Value → Value → Value → Value → Value → GH → M (Value × GH)} (h : ∀ (call : Handle) (k : Nat) (a0 a1 a2 a3 a4 a5 a6 a7 a8 a9 : Value) (H : GH), gFunc P call k fn [a0, a1, a2, a3, a4, a5, a6, a7, a8, a9] H = f call k a0 a1 a2 a3 a4 a5 a6 a7 a8 a9 H) (call : Handle) (k : Nat) (args : List Value) (H : GH) : gFunc P call k fn args H = sh10 P fn f call k args H := by
  unfold sh10
  split
  · exact h ..
  · rfl
end Go.Gh
/- The ghost machine: fields of what lies somewhere, boxes, and a few rules that the walks share. -/
namespace Go.Gh
set_option linter.unusedVariables false
set_option linter.unusedSimpArgs false

section
variable {P : Program} {H H' : GH} {p v : Value} {cs : List Value} {t s f off sz : Nat}
theorem PtC.new (H : GH) (cs : List Value) (e : TypeId) (ro : Bool) : PtC (H.push (.row cs e ro)) (.pointer (some ⟨H.n, 0, none⟩)) cs :=
  ⟨H.n, 0, cs, e, ro, rfl, GH.get_push_new, by omega, by simp⟩
theorem PtC.of {b : Nat} {e : TypeId} {ro : Bool} (h : H.get b = some (.row cs e ro)) : PtC H (.pointer (some ⟨b, 0, none⟩)) cs := ⟨b, 0, cs, e, ro, rfl, h, by omega, by simp⟩
/-- A field of one cell. -/
theorem PtC.f1 (h : PtC H p cs) (hf : fdOk P s f off 1 = true) (ht : ldOk P t false 1 = true) (hc : cs[off]? = some v) : ∃ q, oFieldAddr P s p f = some q ∧ gLoad P t q H = some v := by
  have hlt := (List.getElem?_eq_some_iff.1 hc).1
  obtain ⟨q, h1, h2⟩ := h.field hf (by omega)
  refine ⟨q, h1, ?_⟩
  have e : (cs.drop off).take 1 = [v] := by
    rw [List.drop_eq_getElem_cons hlt, List.take_succ_cons, List.take_zero, (List.getElem?_eq_some_iff.1 hc).2]
  rw [e] at h2
  exact h2.load1 ht
/-- A field of several cells. -/
theorem PtC.fN (h : PtC H p cs) (hf : fdOk P s f off sz = true) (hl : off + sz ≤ cs.length) {ds : List Value} (hd : (cs.drop off).take sz = ds) : ∃ q, oFieldAddr P s p f = some q ∧ PtC H q ds := by
  obtain ⟨q, h1, h2⟩ := h.field hf hl
  rw [hd] at h2
  exact ⟨q, h1, h2⟩
/-- A variable that was just laid, and is set. -/
theorem box {row : List Value} {e : TypeId} (hs : gSize P t = some row.length) (hl : v.cells.toList = cs) (hr : cs.length = row.length) (ho : cs.all oneC = true) :
    ∃ H', gStore P t (.pointer (some ⟨H.n, 0, none⟩)) v (H.push (.row row e false)) = some H' ∧ Ext H H' ∧ H'.get H.n = some (.row cs e false) ∧ H'.n = H.n + 1 := by
  refine ⟨(H.push (.row row e false)).set H.n (.row cs e false), ?_, (Ext.push _ _).set (Nat.le_refl _) (Nat.lt_succ_self _) _, GH.get_set_same (GH.get_push_new (H := H)), rfl⟩
  unfold gStore
  have hsz : v.cells.size = row.length := by rw [← Array.length_toList, hl, hr]
  simp only [hs, hsz, if_true]
  unfold gStoreCells
  simp only [GH.get_push_new, hl]
  rw [if_pos ⟨by omega, ho⟩]
  unfold putAt
  rw [List.take_zero, List.nil_append, Nat.zero_add, hr, List.drop_length, List.append_nil]
/-- An element of an array. -/
theorem PtC.idx {n e : Nat} (h : PtC H p cs) (hu : P.underlying t = some (.array n e)) (hs : gSize P e = some sz) (hn : n * sz ≤ cs.length) {k : IntKind} {i : Nat} (hi : i < n) : ∃ q, oIndexAddr P t p (.int k i) = some q ∧ PtC H q ((cs.drop (i * sz)).take sz) := by
  obtain ⟨b, o, row, e', ro, rfl, h2, h3, h4⟩ := h
  have hm : (i + 1) * sz ≤ n * sz := Nat.mul_le_mul_right _ hi
  rw [Nat.succ_mul] at hm
  refine ⟨.pointer (some ⟨b, o + i * sz, none⟩), ?_, b, _, row, e', ro, rfl, h2, ?_, ?_⟩
  · unfold oIndexAddr
    simp only [hu]
    rw [if_pos ⟨by omega, by omega⟩, hs]
    simp only [Option.map_some, Int.toNat_natCast]
    unfold Addr.add
    by_cases h0 : i * sz = 0
    · simp [h0]
    · simp [h0]
  · simp only [List.length_take, List.length_drop]; omega
  · have e1 : ((cs.drop (i * sz)).take sz).length = sz := by simp only [List.length_take, List.length_drop]; omega
    rw [e1, ← List.drop_drop]
    conv => rhs; rw [← h4]
    rw [List.drop_take, List.take_take]
    congr 1
    omega
theorem PtC.idx1 {n e : Nat} (h : PtC H p cs) (hu : P.underlying t = some (.array n e)) (hs : ldOk P e false 1 = true) (hn : n ≤ cs.length) {k : IntKind} {i : Nat} (hi : i < n) (hv : cs[i]? = some v) : ∃ q, oIndexAddr P t p (.int k i) = some q ∧ gLoad P e q H = some v ∧ PtC H q [v] := by
  obtain ⟨q, h1, h2⟩ := h.idx hu (sz := 1) (ldOk_spec hs).2.2 (by omega) (k := k) hi
  have hlt := (List.getElem?_eq_some_iff.1 hv).1
  have e1 : (cs.drop (i * 1)).take 1 = [v] := by
    rw [Nat.mul_one, List.drop_eq_getElem_cons hlt, List.take_succ_cons, List.take_zero, (List.getElem?_eq_some_iff.1 hv).2]
  rw [e1] at h2
  exact ⟨q, h1, h2.load1 hs, h2⟩
theorem wrS {i : Nat} (h : i ≤ 1000000000) : IntKind.wrap .i64 ((i : Int) + 1) = ((i + 1 : Nat) : Int) := by rw [Go.IntWalk.i64_in _ (by omega)]; omega
theorem gSize_ld {agg : Bool} {n : Nat} (h : ldOk P t agg n = true) : gSize P t = some n := (ldOk_spec h).2.2
end

section
variable {β : Type} {Q : β → Prop}
theorem All.callE {call : Handle} {f : Value} {args : List Value} {H : GH} {R : Value × GH → Prop} {K : Value → GH → M β} (h : Ev (call f args H) R)
    (hK : ∀ v H', R (v, H') → All (K v H') Q) : All (onCall 0 call f args H K) Q := All.call0 h.all hK
theorem All.callS {call : Handle} {f : Value} {args : List Value} {H : GH} {R : Value → GH → Prop} {K : Value → GH → M β} (d : Nat) (h : Sp call f args H R)
    (hK : ∀ v H', Ext H H' → R v H' → All (K v H') Q) : All (onCall d call f args H K) Q := by
  unfold onCall
  split
  · obtain ⟨x, h1, h2, h3⟩ := h H.lo
    have h1 : call f args H = some [x] := h1
    rw [h1]
    exact hK x.1 x.2 h2 (h3 x.2.lo)
  · obtain ⟨⟨v, H1⟩, h1, h2, h3⟩ := h H.lo
    have h1 : call f args H = some [(v, H1)] := h1
    rw [h1]
    simp only
    rw [if_pos h2.n]
    exact hK v H1 h2 (h3 H1.lo)
  · obtain ⟨⟨v, H1⟩, h1, h2, h3⟩ := h H.n
    rw [h1]
    simp only
    obtain ⟨new, e1, e2⟩ := h2.ex
    simp only at e1 e2
    have h2l := h2.lo
    simp only [Nat.min_self] at h2l
    have e3 : H1.objs.take (H1.n - H.n) = new := by rw [e1, e2, Nat.add_sub_cancel_left, List.take_left]
    rw [if_pos ⟨h2l, by omega, by rw [e3]; omega⟩, e3, ← e1]
    refine hK v _ ⟨⟨new, e1, e2⟩, ?_⟩ (h3 _)
    show min H.lo H.n ≤ min H.lo H1.lo
    omega
theorem All.mk {v : β} (h : Q v) : All (some [v]) Q := All.ret h
/-- A call that comes to one outcome over every heap of this kind. -/
theorem Sp.of {call : Handle} {f : Value} {args : List Value} {H : GH} {R : Value → GH → Prop} (h : ∀ lo, Ev (call f args { H with lo := lo }) fun x => Ext { H with lo := lo } x.2 ∧ R x.1 x.2)
    (hR : ∀ v (H' : GH) lo', R v H' → R v { H' with lo := lo' }) : Sp call f args H R := fun lo => (h lo).mono fun x hx => ⟨hx.1, fun lo' => hR _ _ lo' hx.2⟩
end
/-- The low mark means nothing to what lies there. -/
theorem GH.get_lo (H : GH) (lo b : Nat) : GH.get { H with lo := lo } b = H.get b := rfl
section
variable {α : Type} {A : Ty α} {H : GH} {v : Value} {xs : List α}
/-- Data that hang on what lies in the heap alone. -/
def Ty.Gets (A : Ty α) : Prop := ∀ (H H' : GH) (cs : List Value) (x : α), (∀ b, H'.get b = H.get b) → A.rep H cs x → A.rep H' cs x
theorem CellsR.gets (hA : A.Gets) {H' : GH} (hg : ∀ b, H'.get b = H.get b) {cs : List Value} (h : CellsR A H cs xs) : CellsR A H' cs xs := by
  induction h with
  | nil => exact .nil
  | cons h t ih => exact .cons (hA _ _ _ _ hg h) ih
theorem SlR.gets (hA : A.Gets) {H' : GH} (hg : ∀ b, H'.get b = H.get b) (h : SlR A H v xs) : SlR A H' v xs := by
  rcases h with h | ⟨b, o, c, row, e, ro, cs, h1, h2, h3, h4, h5⟩
  · exact .inl h
  · exact .inr ⟨b, o, c, row, e, ro, cs, h1, (hg b).trans h2, h3, h4, h5.gets hA hg⟩
end
theorem SlR.lo {α : Type} {A : Ty α} {H : GH} {v : Value} {xs : List α} {lo : Nat} (h : SlR A H v xs) (hA : A.Gets) : SlR A { H with lo := lo } v xs := SlR.gets (H := H) (H' := { H with lo := lo }) hA (fun _ => rfl) h
/-- A slice, as an element. -/
def tySl {α : Type} (A : Ty α) : Ty (List α) where
  sz := 1
  rep H cs xs := ∃ v, cs = [v] ∧ SlR A H v xs
  len h := by obtain ⟨v, rfl, _⟩ := h; rfl
  one h := by obtain ⟨v, rfl, h⟩ := h; obtain ⟨a, c, rfl⟩ := h.val; rfl
  mono hE h := by obtain ⟨v, rfl, h⟩ := h; exact ⟨v, rfl, h.mono hE⟩
theorem tySl_gets {α : Type} {A : Ty α} (hA : A.Gets) : (tySl A).Gets := fun H H' cs xs hg ⟨v, h1, h2⟩ => ⟨v, h1, h2.gets hA hg⟩
theorem list2 {l : List Value} (h : l.length = 2) : ∃ a b, l = [a, b] := by
  match l, h with
  | [a, b], _ => exact ⟨a, b, rfl⟩
theorem list4 {l : List Value} (h : l.length = 4) : ∃ a b c d, l = [a, b, c, d] := by
  match l, h with
  | [a, b, c, d], _ => exact ⟨a, b, c, d, rfl⟩
end Go.Gh
/- The ghost machine: slices of a fixed capacity, of the call's own; stores into rows; what some builtin steps come to. -/
namespace Go.Gh
set_option linter.unusedVariables false
set_option linter.unusedSimpArgs false

section
variable {P : Program} {H H' : GH} {v y : Value} {row : List Value} {t e b o : Nat}
/-- A store of one cell into a row. -/
theorem store1 (h : H.get b = some (.row row e false)) (hs : gSize P t = some 1) (hv : v.cells.toList = [v]) (ho : oneC v = true) (hi : o < row.length) :
    gStore P t (.pointer (some ⟨b, o, none⟩)) v H = some (H.set b (.row (row.set o v) e false)) := by
  unfold gStore
  have hsz : v.cells.size = 1 := by rw [← Array.length_toList, hv]; rfl
  simp only [hs, hsz, if_true]
  unfold gStoreCells
  simp only [h, hv]
  rw [if_pos ⟨by rw [List.length_singleton]; omega, by simp [ho]⟩]
  have e2 : putAt row o [v] = row.set o v := by
    unfold putAt
    rw [List.length_singleton, List.set_eq_take_append_cons_drop, if_pos hi, List.append_assoc]
    rfl
  rw [e2]
/-- A store that takes the place of a whole row. -/
theorem storeAll {cs : List Value} {sz : Nat} (h : H.get b = some (.row row e false)) (hs : gSize P t = some sz) (h1 : row.length = sz) (hv : v.cells.toList = cs) (h2 : cs.length = sz) (ho : cs.all oneC = true) :
    gStore P t (.pointer (some ⟨b, 0, none⟩)) v H = some (H.set b (.row cs e false)) := by
  unfold gStore
  have hsz : v.cells.size = sz := by rw [← Array.length_toList, hv, h2]
  simp only [hs, hsz, if_true]
  unfold gStoreCells
  simp only [h, hv]
  rw [if_pos ⟨by omega, ho⟩]
  unfold putAt
  rw [List.take_zero, List.nil_append, Nat.zero_add, h2, ← h1, List.drop_length, List.append_nil]
theorem gResL1 {p : Value} : gResL P H [(p, some t)] = gLoad P t p H := by
  unfold gResL
  simp only [List.mapM_cons, List.mapM_nil, gRes1]
  cases gLoad P t p H <;> rfl
end

/-- A slice of the call's own with room for N elements. -/
structure Fix {α : Type} (A : Ty α) (e : TypeId) (N b : Nat) (H : GH) (v : Value) (xs : List α) : Prop where
  val : v = .slice (some ⟨b, 0, none⟩) xs.length N
  ex : ∃ row cs, H.get b = some (.row row e false) ∧ row.length = N * A.sz ∧ CellsR A H cs xs ∧ row.take cs.length = cs
  le : xs.length ≤ N
section
variable {α : Type} {A : Ty α} {P : Program} {H H' : GH} {v y : Value} {xs ys : List α} {st xt e e' N b : Nat} {new : List Value}
theorem Fix.lt (h : Fix A e N b H v xs) : b < H.n := by obtain ⟨row, cs, h1, _⟩ := h.ex; exact GH.get_lt h1
theorem Fix.slr (h : Fix A e N b H v xs) : SlR A H v xs := by
  obtain ⟨row, cs, h1, h2, h3, h4⟩ := h.ex
  refine .inr ⟨b, 0, N, row, e, false, cs, h.val, h1, ?_, by rw [List.drop_zero]; exact h4, h3⟩
  have := h3.length
  have := Nat.mul_le_mul_right A.sz h.le
  omega
theorem Fix.ext (hE : Ext H H') (h : Fix A e N b H v xs) : Fix A e N b H' v xs := by
  obtain ⟨row, cs, h1, h2, h3, h4⟩ := h.ex
  exact ⟨h.val, ⟨row, cs, hE.get_of h1, h2, h3.mono hE, h4⟩, h.le⟩
theorem CellsR.keep (hk : ∀ cs x, A.rep H cs x → A.rep H' cs x) {cs : List Value} (h : CellsR A H cs xs) : CellsR A H' cs xs := by
  induction h with
  | nil => exact .nil
  | cons h t ih => exact .cons (hk _ _ h) ih
theorem Fix.keep (hg : H'.get b = H.get b) (hk : ∀ cs x, A.rep H cs x → A.rep H' cs x) (h : Fix A e N b H v xs) : Fix A e N b H' v xs := by
  obtain ⟨row, cs, h1, h2, h3, h4⟩ := h.ex
  exact ⟨h.val, ⟨row, cs, hg.trans h1, h2, h3.keep hk, h4⟩, h.le⟩
theorem repeated_len {z : List Value} {n : Nat} : (repeated z n).length = n * z.length := by
  unfold repeated
  induction n with
  | zero => simp
  | succ n ih => rw [List.replicate_succ, List.flatten_cons, List.length_append, ih, Nat.succ_mul, Nat.add_comm]
theorem Fix.make (hst : P.underlying st = some (.slice e)) (he : elemOk P e A.sz = true) (hN : N ≤ 1000000000) {k k' : IntKind} :
    ∃ row, gMakeSlice P st (.int k 0) (.int k' N) H = some (.slice (some ⟨H.n, 0, none⟩) 0 N, H.push (.row row e false)) ∧ Fix A e N H.n (H.push (.row row e false)) (.slice (some ⟨H.n, 0, none⟩) 0 N) [] := by
  obtain ⟨i, z, hi, hz, hsz, hb0, hb1, hzc, hpos⟩ := elemOk_spec he
  refine ⟨repeated z.cells.toList N, ?_, rfl, ⟨_, [], GH.get_push_new, ?_, .nil, rfl⟩, Nat.zero_le _⟩
  · unfold gMakeSlice
    simp only [hst, hi, hz, Int.toNat_natCast, Int.toNat_zero]
    rw [if_pos ⟨Int.le_refl _, by omega, roomy_of hN hb1, by omega, by omega⟩]
  · rw [repeated_len, Array.length_toList, hzc]
theorem Fix.append (h : Fix A e N b H v xs) (hst : P.underlying st = some (.slice e)) (hxt : P.underlying xt = some (.slice e')) (he : elemOk P e A.sz = true) (hN : N ≤ 1000000000)
    (hy : ∃ a c, y = .slice a ys.length c) (hf : gFirst A.sz ys.length y H = some new) (hc : CellsR A H new ys) (h0 : 0 < ys.length) (hn : xs.length + ys.length ≤ N)
    (hk : ∀ row' cs x, A.rep H cs x → A.rep (H.set b (.row row' e false)) cs x) :
    ∃ row', gAppend P st xt v y H = some (.slice (some ⟨b, 0, none⟩) (xs.length + ys.length) N, H.set b (.row row' e false)) ∧ Fix A e N b (H.set b (.row row' e false)) (.slice (some ⟨b, 0, none⟩) (xs.length + ys.length) N) (xs ++ ys) := by
  obtain ⟨i, z, hi, hz, hsz, hb0, hb1, hzc, hpos⟩ := elemOk_spec he
  obtain ⟨ya, yc, rfl⟩ := hy
  have hnl : new.length = ys.length * A.sz := hc.length
  have hap : gAppended P xt i z (.slice ya ys.length yc) H = some (ys.length, new) := by
    unfold gAppended
    simp only [hxt, hsz, hf]
    rfl
  have hroom : (roomy (xs.length + ys.length) i.bytes && new.all oneC && new.length == ys.length * i.size && z.cells.size == i.size && decide (0 < i.size) && decide (0 < i.bytes)) = true := by
    rw [roomy_of (by omega) hb1, hc.all, hsz]
    simp [hnl, hzc, hpos, hb0]
  obtain ⟨rfl, ⟨row, cs, h1, h2, h3, h4⟩, hle⟩ := h
  have hcl := h3.length
  have hmul : (xs.length + ys.length) * A.sz ≤ N * A.sz := Nat.mul_le_mul_right _ hn
  rw [Nat.add_mul] at hmul
  have hset := GH.get_set_same (o := .row (putAt row (xs.length * A.sz) new) e false) h1
  refine ⟨putAt row (xs.length * A.sz) new, ?_, by rw [List.length_append], ⟨putAt row (xs.length * A.sz) new, cs ++ new, hset, ?_, (h3.keep (hk _)).append (hc.keep (hk _)), ?_⟩, by rw [List.length_append]; exact hn⟩
  · unfold gAppend
    simp only [hst, hi, hz, hap, hroom, if_true]
    rw [if_neg (by omega), if_pos (by unfold loose; omega), if_pos hn]
    unfold gStoreCells
    simp only [h1, hsz, Nat.zero_add]
    rw [if_pos ⟨by omega, hc.all⟩]
    rfl
  · unfold putAt
    rw [List.length_append, List.length_append, List.length_take, List.length_drop]
    omega
  · unfold putAt
    rw [List.length_append, ← hcl, h4, List.append_assoc, ← List.append_assoc, ← List.length_append, List.take_left]
/-- The same slice, shorter. -/
theorem CellsR.take {cs : List Value} (h : CellsR A H cs xs) (n : Nat) : CellsR A H (cs.take ((xs.take n).length * A.sz)) (xs.take n) := by
  induction h generalizing n with
  | nil => simp; exact .nil
  | @cons c cs x xs h t ih =>
    cases n with
    | zero => simp; exact .nil
    | succ n =>
      have := CellsR.cons h (ih n)
      rw [List.take_succ_cons, List.length_cons, Nat.succ_mul, Nat.add_comm, List.take_append, A.len h, Nat.add_sub_cancel_left, List.take_of_length_le (by rw [A.len h]; omega)]
      exact this
theorem Fix.shrink (h : Fix A e N b H v xs) (hst : P.underlying st = some (.slice e)) (hs : gSize P e = some A.sz) (hN : N ≤ 1000000000) {n : Nat} (hn : n ≤ xs.length) (hn0 : 0 < N) {k k' : IntKind} :
    oSlice P st v none (some (.int k n)) (some (.int k' N)) = some (.slice (some ⟨b, 0, none⟩) n N) ∧ Fix A e N b H (.slice (some ⟨b, 0, none⟩) n N) (xs.take n) := by
  obtain ⟨rfl, ⟨row, cs, h1, h2, h3, h4⟩, hle⟩ := h
  have hl : (xs.take n).length = n := by rw [List.length_take]; omega
  refine ⟨?_, by rw [hl], ⟨row, _, h1, h2, h3.take n, ?_⟩, by omega⟩
  · unfold oSlice
    simp only [hst, hs]
    unfold gSliceSl optB gBound
    simp only
    rw [if_neg (by unfold loose; omega)]
    simp only [Int.toNat_natCast]
    rw [if_pos ⟨by omega, by omega⟩]
    simp only
    rw [if_pos ⟨by omega, by omega⟩]
    simp only [Nat.sub_zero, Nat.zero_mul]
    have : Addr.add ⟨b, 0, none⟩ 0 = ⟨b, 0, none⟩ := rfl
    rw [this]
    simp
  · have hcl := h3.length
    have : n * A.sz ≤ xs.length * A.sz := Nat.mul_le_mul_right _ hn
    rw [hl, List.length_take, Nat.min_eq_left (by omega)]
    conv => rhs; rw [← h4]
    rw [List.take_take, Nat.min_eq_left (by omega)]
theorem Fix.cap (h : Fix A e N b H v xs) (hst : P.underlying st = some (.slice e)) (hN : N ≤ 1000000000) : oCap P st v = some (.int .i64 N) := by
  rw [h.val]
  unfold oCap
  simp only [hst]
  rw [if_pos (by unfold loose; omega)]
end
end Go.Gh
/- The ghost machine: copies of slices (append to an empty one), clipped ones; slices whose rows bear a type. -/
namespace Go.Gh
set_option linter.unusedVariables false
set_option linter.unusedSimpArgs false

/-- A slice that holds these, whose row bears this type. -/
def SlE {α : Type} (A : Ty α) (e : TypeId) (H : GH) (v : Value) (xs : List α) : Prop :=
  (v = .slice none 0 0 ∧ xs = []) ∨ ∃ b o c row ro cs, v = .slice (some ⟨b, o, none⟩) xs.length c ∧ H.get b = some (.row row e ro) ∧ o + cs.length ≤ row.length ∧ (row.drop o).take cs.length = cs ∧ CellsR A H cs xs
/-- A copy: new since H0, a row of its own. -/
def Cl {α : Type} (A : Ty α) (e : TypeId) (H0 H : GH) (v : Value) (xs : List α) : Prop :=
  (v = .slice none 0 0 ∧ xs = []) ∨ ∃ b c cs, v = .slice (some ⟨b, 0, none⟩) xs.length c ∧ H0.n ≤ b ∧ H.get b = some (.row cs e false) ∧ CellsR A H cs xs ∧ ((c = loose + A.sz ∧ xs.length < loose) ∨ (c < loose ∧ xs.length = c))
section
variable {α : Type} {A : Ty α} {P : Program} {H H' H0 : GH} {v y : Value} {xs ys : List α} {t e : Nat}
theorem SlE.slr (h : SlE A e H v xs) : SlR A H v xs := by
  rcases h with h | ⟨b, o, c, row, ro, cs, h1, h2, h3, h4, h5⟩
  · exact .inl h
  · exact .inr ⟨b, o, c, row, e, ro, cs, h1, h2, h3, h4, h5⟩
theorem Cl.sle (h : Cl A e H0 H v xs) : SlE A e H v xs := by
  rcases h with h | ⟨b, c, cs, h1, _, h2, h3, _⟩
  · exact .inl h
  · exact .inr ⟨b, 0, c, cs, false, cs, h1, h2, by omega, by simp, h3⟩
theorem Cl.slr (h : Cl A e H0 H v xs) : SlR A H v xs := h.sle.slr
theorem Cl.ext (hE : Ext H H') (h : Cl A e H0 H v xs) : Cl A e H0 H' v xs := by
  rcases h with h | ⟨b, c, cs, h1, h2, h3, h4, h5⟩
  · exact .inl h
  · exact .inr ⟨b, c, cs, h1, h2, hE.get_of h3, h4.mono hE, h5⟩
theorem Cl.gets (hA : A.Gets) (hg : ∀ b, H'.get b = H.get b) (h : Cl A e H0 H v xs) : Cl A e H0 H' v xs := by
  rcases h with h | ⟨b, c, cs, h1, h2, h3, h4, h5⟩
  · exact .inl h
  · exact .inr ⟨b, c, cs, h1, h2, (hg b).trans h3, h4.gets hA hg, h5⟩
theorem Cl.lo {lo : Nat} (h : Cl A e H0 H v xs) (hA : A.Gets) : Cl A e H0 { H with lo := lo } v xs := Cl.gets (H := H) (H' := { H with lo := lo }) hA (fun _ => rfl) h
theorem SlE.mono (hE : Ext H H') (h : SlE A e H v xs) : SlE A e H' v xs := by
  rcases h with h | ⟨b, o, c, row, ro, cs, h1, h2, h3, h4, h5⟩
  · exact .inl h
  · exact .inr ⟨b, o, c, row, ro, cs, h1, hE.get_of h2, h3, h4, h5.mono hE⟩
theorem SlE.gets (hA : A.Gets) (hg : ∀ b, H'.get b = H.get b) (h : SlE A e H v xs) : SlE A e H' v xs := by
  rcases h with h | ⟨b, o, c, row, ro, cs, h1, h2, h3, h4, h5⟩
  · exact .inl h
  · exact .inr ⟨b, o, c, row, ro, cs, h1, (hg b).trans h2, h3, h4, h5.gets hA hg⟩
/-- Where the rows of this type stand as they were. -/
theorem SlE.keep (hA : A.Flat) (hk : ∀ b row ro, H.get b = some (.row row e ro) → H'.get b = H.get b) (h : SlE A e H v xs) : SlE A e H' v xs := by
  rcases h with h | ⟨b, o, c, row, ro, cs, h1, h2, h3, h4, h5⟩
  · exact .inl h
  · exact .inr ⟨b, o, c, row, ro, cs, h1, (hk _ _ _ h2).trans h2, h3, h4, h5.flat hA⟩
theorem SlE.val (h : SlE A e H v xs) : ∃ a c, v = .slice a xs.length c := h.slr.val
theorem nilEq {a : Option Addr} {n c e' : Nat} (hu : P.underlying t = some (.slice e')) : (oBin P .eql t (.slice a n c) (.slice none 0 0)).filter closed = some (.bool a.isNone) := by
  have h : ∀ a n c, gNilFits P t (.slice a n c) = true := fun a n c => by unfold gNilFits; rw [hu]
  unfold oBin
  simp only [h, Bool.and_self, if_true]
  cases a <;> rfl
theorem nilNe {a : Option Addr} {n c e' : Nat} (hu : P.underlying t = some (.slice e')) : (oBin P .neq t (.slice a n c) (.slice none 0 0)).filter closed = some (.bool !a.isNone) := by
  have h : ∀ a n c, gNilFits P t (.slice a n c) = true := fun a n c => by unfold gNilFits; rw [hu]
  unfold oBin
  simp only [h, Bool.and_self, if_true]
  cases a <;> rfl
/-- An append to an empty slice that was just built. -/
theorem app_clone {xt e' : Nat} (hy : SlR A H y ys) (hst : P.underlying t = some (.slice e)) (hxt : P.underlying xt = some (.slice e')) (he : elemOk P e A.sz = true) (hn : ys.length ≤ 1000000000) :
    ∃ v' H', gAppend P t xt (.slice (some ⟨H.n, 0, none⟩) 0 0) y (H.push (.row [] e false)) = some (v', H') ∧ Ext H H' ∧ Cl A e H H' v' ys := by
  obtain ⟨i, z, hi, hz, hsz, hb0, hb1, hzc, hpos⟩ := elemOk_spec he
  have hE := Ext.push H (.row [] e false)
  have hy1 := hy.mono hE
  obtain ⟨new, hf, hc⟩ := hy1.first
  obtain ⟨ya, yc, rfl⟩ := hy.val
  have hnl : new.length = ys.length * A.sz := hc.length
  have hap : gAppended P xt i z (.slice ya ys.length yc) (H.push (.row [] e false)) = some (ys.length, new) := by
    unfold gAppended
    simp only [hxt, hsz, hf]
    rfl
  have hroom : (roomy (0 + ys.length) i.bytes && new.all oneC && new.length == ys.length * i.size && z.cells.size == i.size && decide (0 < i.size) && decide (0 < i.bytes)) = true := by
    rw [roomy_of (by omega) hb1, hc.all, hsz]
    simp [hnl, hzc, hpos, hb0]
  have hfirst : gFirst A.sz 0 (.slice (some ⟨H.n, 0, none⟩) 0 0) (H.push (.row [] e false)) = some [] := by
    unfold gFirst
    simp [GH.get_push_new]
  by_cases h0 : ys.length = 0
  · have hys : ys = [] := List.length_eq_zero_iff.1 h0
    subst hys
    refine ⟨.slice (some ⟨H.n, 0, none⟩) 0 0, _, ?_, hE, .inr ⟨H.n, 0, [], rfl, Nat.le_refl _, GH.get_push_new, .nil, .inr ⟨by unfold loose; omega, rfl⟩⟩⟩
    unfold gAppend
    simp only [hst, hi, hz, hap, hroom, if_true]
    rw [if_pos h0]
  · refine ⟨.slice (some ⟨(H.push (.row [] e false)).n, 0, none⟩) ys.length (loose + A.sz), (H.push (.row [] e false)).push (.row new e false), ?_, hE.push' _, .inr ⟨_, _, new, rfl, Nat.le_succ _, GH.get_push_new, hc.mono (Ext.push _ _), .inl ⟨rfl, by unfold loose; omega⟩⟩⟩
    unfold gAppend
    simp only [hst, hi, hz, hap, hroom, if_true]
    rw [if_neg h0, if_pos (by unfold loose; omega), if_neg (by omega)]
    simp only [hsz, Nat.zero_mul, hfirst, List.length_nil, if_true, Nat.zero_add, List.nil_append]
theorem clip_val {a : Option Addr} {n c : Nat} (hst : P.underlying t = some (.slice e)) (hs : gSize P e = some A.sz) (ha : a = none → n = 0 ∧ c = 0) (hc : a ≠ none → (c = loose + A.sz ∧ n < loose) ∨ (c < loose ∧ n ≤ c)) {k k' : IntKind} :
    oSlice P t (.slice a n c) none (some (.int k n)) (some (.int k' n)) = some (.slice a n (if a = none then 0 else n)) := by
  unfold oSlice
  simp only [hst, hs]
  unfold gSliceSl
  cases a with
  | none =>
    obtain ⟨rfl, rfl⟩ := ha rfl
    simp only [optB, gBound]
    simp
  | some a =>
    simp only
    rcases hc (by simp) with ⟨rfl, hn⟩ | ⟨h1, h2⟩
    · rw [if_pos (by omega), if_pos ⟨rfl, hn⟩]
      simp only [gBound, optB]
      rw [if_pos ⟨by omega, by omega⟩]
      simp only [Int.toNat_natCast]
      rw [if_pos ⟨by omega, by omega⟩]
      simp [Addr.add]
    · rw [if_neg (by omega)]
      simp only [gBound, optB]
      rw [if_pos ⟨by omega, by omega⟩]
      simp only [Int.toNat_natCast]
      rw [if_pos ⟨by omega, by omega⟩]
      simp [Addr.add]
theorem Cl.clip (h : Cl A e H0 H v xs) {e1 : Nat} (hst : P.underlying t = some (.slice e1)) (hs : gSize P e1 = some A.sz) (hn : xs.length ≤ 1000000000) {k k' : IntKind} :
    ∃ v', oSlice P t v none (some (.int k xs.length)) (some (.int k' xs.length)) = some v' ∧ Cl A e H0 H v' xs := by
  rcases h with ⟨rfl, rfl⟩ | ⟨b, c, cs, rfl, h2, h3, h4, h5⟩
  · exact ⟨_, clip_val (A := A) (n := 0) hst hs (fun _ => ⟨rfl, rfl⟩) (fun h => absurd rfl h), .inl ⟨rfl, rfl⟩⟩
  · refine ⟨_, clip_val (A := A) hst hs (fun h => by cases h) (fun _ => h5.imp id fun h => ⟨h.1, Nat.le_of_eq h.2⟩), .inr ⟨b, _, cs, rfl, h2, h3, h4, .inr ?_⟩⟩
    simp only [reduceCtorEq, if_false, and_true]
    unfold loose; omega
/-- An append to a copy. -/
theorem Cl.appB {xt e' : Nat} (hA : A.Flat) (h : Cl A e H0 H v xs) (hst : P.underlying t = some (.slice e)) (hxt : P.underlying xt = some (.slice e')) (he : elemOk P e A.sz = true)
    (hy : ∃ a c, y = .slice a ys.length c) {new : List Value} (hf : gFirst A.sz ys.length y H = some new) (hc : CellsR A H new ys) (h0 : 0 < ys.length) (hn : xs.length + ys.length ≤ 1000000) (hE : Ext H0 H) :
    ∃ v' H', gAppend P t xt v y H = some (v', H') ∧ Ext H0 H' ∧ Cl A e H0 H' v' (xs ++ ys) ∧ (∀ q o, H.get q = some o → blkOf v ≠ some q → H'.get q = some o) ∧ blkOf v' = some H.n := by
  obtain ⟨i, z, hi, hz, hsz, hb0, hb1, hzc, hpos⟩ := elemOk_spec he
  obtain ⟨ya, yc, rfl⟩ := hy
  have hnl : new.length = ys.length * A.sz := hc.length
  have hap : gAppended P xt i z (.slice ya ys.length yc) H = some (ys.length, new) := by
    unfold gAppended
    simp only [hxt, hsz, hf]
    rfl
  have hroom : (roomy (xs.length + ys.length) i.bytes && new.all oneC && new.length == ys.length * i.size && z.cells.size == i.size && decide (0 < i.size) && decide (0 < i.bytes)) = true := by
    rw [roomy_of (by omega) hb1, hc.all, hsz]
    simp [hnl, hzc, hpos, hb0]
  have hll : xs.length + ys.length < loose := by unfold loose; omega
  obtain ⟨old, hof, hoc⟩ := h.slr.first
  have hol : old.length = xs.length * A.sz := hoc.length
  have hcat : ∀ H', CellsR A H' (old ++ new) (xs ++ ys) := fun H' => (hoc.flat hA).append (hc.flat hA)
  rcases h with ⟨rfl, rfl⟩ | ⟨b, c, cs, rfl, h2, h3, h4, h5⟩
  · refine ⟨.slice (some ⟨H.n, 0, none⟩) ys.length (loose + A.sz), H.push (.row new e false), ?_, hE.push' _, .inr ⟨H.n, _, new, rfl, hE.n, GH.get_push_new, hc.flat hA, .inl ⟨rfl, by rw [List.nil_append]; omega⟩⟩, fun q o hq _ => (GH.get_push_old (GH.get_lt hq)).trans hq, rfl⟩
    unfold gAppend
    simp only [List.length_nil] at hroom
    simp only [hst, hi, hz, hap, hroom, if_true, and_self]
    rw [if_neg (by omega), hsz]
  · rcases h5 with ⟨rfl, hl⟩ | ⟨hc1, rfl⟩
    · refine ⟨.slice (some ⟨H.n, 0, none⟩) (xs ++ ys).length (loose + A.sz), (H.set b .dead).push (.row (old ++ new) e false), ?_, (hE.set h2 (GH.get_lt h3) .dead).push' _, .inr ⟨H.n, _, _, rfl, hE.n, GH.get_push_new, hcat _, .inl ⟨rfl, by rw [List.length_append]; omega⟩⟩, fun q o hq hne => ?_, rfl⟩
      · unfold gAppend
        simp only [hst, hi, hz, hap, hroom, if_true]
        rw [if_neg (by omega), if_neg (by omega), if_pos (by rw [hsz])]
        rw [hsz]
        simp only [h3, hof]
        rw [if_pos ⟨trivial, hol⟩, List.length_append]
      · have hqb : b ≠ q := fun hh => hne (by rw [hh]; rfl)
        exact (GH.get_push_old (H := H.set b .dead) (show q < H.n from GH.get_lt hq)).trans ((GH.get_set_other hqb (GH.get_lt h3)).trans hq)
    · refine ⟨.slice (some ⟨H.n, 0, none⟩) (xs ++ ys).length (loose + A.sz), H.push (.row (old ++ new) e false), ?_, hE.push' _, .inr ⟨H.n, _, _, rfl, hE.n, GH.get_push_new, hcat _, .inl ⟨rfl, by rw [List.length_append]; omega⟩⟩, fun q o hq hne => (GH.get_push_old (GH.get_lt hq)).trans hq, rfl⟩
      unfold gAppend
      simp only [hst, hi, hz, hap, hroom, if_true]
      rw [if_neg (by omega), if_pos hc1, if_neg (by omega), hsz]
      simp only [hof]
      rw [if_pos hol, List.length_append]
theorem Cl.appG {xt e' : Nat} (hA : A.Flat) (h : Cl A e H0 H v xs) (hst : P.underlying t = some (.slice e)) (hxt : P.underlying xt = some (.slice e')) (he : elemOk P e A.sz = true)
    (hy : ∃ a c, y = .slice a ys.length c) {new : List Value} (hf : gFirst A.sz ys.length y H = some new) (hc : CellsR A H new ys) (h0 : 0 < ys.length) (hn : xs.length + ys.length ≤ 1000000) (hE : Ext H0 H) :
    ∃ v' H', gAppend P t xt v y H = some (v', H') ∧ Ext H0 H' ∧ Cl A e H0 H' v' (xs ++ ys) ∧ ∀ q o, H.get q = some o → (∀ row ro, o ≠ .row row e ro) → H'.get q = some o := by
  obtain ⟨v', H', h1, h2, h3, h4, _⟩ := h.appB hA hst hxt he hy hf hc h0 hn hE
  refine ⟨v', H', h1, h2, h3, fun q o hq hne => h4 q o hq fun hb => ?_⟩
  rcases h with ⟨rfl, _⟩ | ⟨b, c, cs, rfl, _, g3, _⟩
  · cases hb
  · injection hb with hb
    have hb : b = q := hb
    subst hb
    rw [g3] at hq
    exact hne _ _ (Option.some.inj hq).symm
theorem Cl.app {xt e' : Nat} (hA : A.Flat) (h : Cl A e H0 H v xs) (hst : P.underlying t = some (.slice e)) (hxt : P.underlying xt = some (.slice e')) (he : elemOk P e A.sz = true)
    (hy : ∃ a c, y = .slice a ys.length c) {new : List Value} (hf : gFirst A.sz ys.length y H = some new) (hc : CellsR A H new ys) (h0 : 0 < ys.length) (hn : xs.length + ys.length ≤ 1000000) (hE : Ext H0 H) :
    ∃ v' H', gAppend P t xt v y H = some (v', H') ∧ Ext H0 H' ∧ Cl A e H0 H' v' (xs ++ ys) ∧ ∀ q row e1 ro, H.get q = some (.row row e1 ro) → e1 ≠ e → H'.get q = some (.row row e1 ro) := by
  obtain ⟨v', H', h1, h2, h3, h4⟩ := h.appG hA hst hxt he hy hf hc h0 hn hE
  exact ⟨v', H', h1, h2, h3, fun q row e1 ro hq hne => h4 q _ hq fun row2 ro2 hh => by injection hh with _ h6 _; exact hne h6⟩
/-- Where the rows of this type stand as they were. -/
theorem Cl.keepR (hA : A.Flat) (hk : ∀ b row, H.get b = some (.row row e false) → H'.get b = some (.row row e false)) (h : Cl A e H0 H v xs) : Cl A e H0 H' v xs := by
  rcases h with h | ⟨b, c, cs, h1, h2, h3, h4, h5⟩
  · exact .inl h
  · exact .inr ⟨b, c, cs, h1, h2, hk _ _ h3, h4.flat hA, h5⟩
/-- Where its own block stands as it was. -/
theorem Cl.keepB (hA : A.Flat) (hk : ∀ b o, blkOf v = some b → H0.n ≤ b → H.get b = some o → H'.get b = some o) (h : Cl A e H0 H v xs) : Cl A e H0 H' v xs := by
  rcases h with h | ⟨b, c, cs, rfl, h2, h3, h4, h5⟩
  · exact .inl h
  · exact .inr ⟨b, c, cs, rfl, h2, hk _ _ rfl h2 h3, h4.flat hA, h5⟩
theorem Cl.oLen (h : Cl A e H0 H v xs) {e1 : Nat} (hu : P.underlying t = some (.slice e1)) : oLen P t v = some (.int .i64 xs.length) := h.slr.oLen hu
end
end Go.Gh
/- The ghost machine: maps whose keys are plain, as lists of keys, values and stamps: look-ups, updates, deletions, and the walk through them in any order. -/
namespace Go.Gh
set_option linter.unusedVariables false
set_option linter.unusedSimpArgs false

/-- A map's type: its keys are as plain values, and are told apart. -/
structure KeyT (P : Program) (t : TypeId) (K : Type) [DecidableEq K] where
  kt : TypeId
  et : TypeId
  kv : K → Value
  z : Value
  und : P.underlying t = some (.map kt et)
  eq : ∀ x y, quick P (Op.equal kt (kv x) (kv y)) = some (decide (x = y))
  ok : ∀ x, gKeyOk P kt (kv x) = true
  same : ∀ x, Instr.sameBits 10000 (kv x) (kv x) = true
  zero : gZero P et = some z
/-- An entry: its key, its value, its stamp. -/
structure Ent (K : Type) where
  k : K
  v : Value
  s : Nat
section
variable {K : Type}
def mkeys (es : List (Ent K)) : List K := es.map (·.k)
theorem mkeys_cons (e : Ent K) (r : List (Ent K)) : mkeys (e :: r) = e.k :: mkeys r := rfl
/-- The map is in order. -/
structure WfM (es : List (Ent K)) (clock : Nat) : Prop where
  nd : (mkeys es).Nodup
  st : (es.map (·.s)).Nodup
  lt : ∀ e ∈ es, e.s < clock
theorem WfM.nil : WfM ([] : List (Ent K)) 0 := ⟨List.nodup_nil, List.nodup_nil, fun e he => by cases he⟩
def leftE (es : List (Ent K)) (seen : List Nat) : List (Ent K) := es.filter fun e => !seen.contains e.s
theorem leftE_lt {es : List (Ent K)} {seen : List Nat} {e : Ent K} (he : e ∈ leftE es seen) : (leftE es (seen ++ [e.s])).length < (leftE es seen).length := by
  have h : leftE es (seen ++ [e.s]) = (leftE es seen).filter fun e' => e'.s != e.s := by
    unfold leftE
    rw [List.filter_filter]
    congr 1
    funext e'
    simp only [List.contains_eq_mem, List.mem_append, List.mem_singleton]
    by_cases h1 : e'.s ∈ seen <;> by_cases h2 : e'.s = e.s <;> simp [h1, h2]
  rw [h]
  exact List.length_filter_lt_length_iff_exists.2 ⟨e, he, by simp⟩
end
section
variable {K : Type} [DecidableEq K] {P : Program} {t : TypeId} (T : KeyT P t K)
def mE (es : List (Ent K)) : List MapEntry := es.map fun e => { key := T.kv e.k, val := e.v, born := e.s }
def getM : List (Ent K) → K → Option Value
  | [], _ => none
  | e :: r, x => if x = e.k then some e.v else getM r x
def setV : List (Ent K) → K → Value → List (Ent K)
  | [], _, _ => []
  | e :: r, x, v => if x = e.k then { e with v := v } :: r else e :: setV r x v
def delM : List (Ent K) → K → List (Ent K)
  | [], _ => []
  | e :: r, x => if x = e.k then r else e :: delM r x
def posK : List (Ent K) → K → Nat
  | [], _ => 0
  | e :: r, x => if x = e.k then 0 else posK r x + 1
/-- The map with a key set. -/
def putM (es : List (Ent K)) (x : K) (v : Value) (clock : Nat) : List (Ent K) := if x ∈ mkeys es then setV es x v else es ++ [⟨x, v, clock⟩]
def clockM (es : List (Ent K)) (x : K) (clock : Nat) : Nat := if x ∈ mkeys es then clock else clock + 1
variable {T}
theorem find_none {x : K} : ∀ (es : List (Ent K)) (n : Nat), x ∉ mkeys es → gFind P T.kt (T.kv x) (mE T es) n = some none
  | [], _, _ => rfl
  | e :: r, n, h => by
    rw [mkeys_cons, List.mem_cons, not_or] at h
    show gFind P T.kt (T.kv x) ({ key := T.kv e.k, val := e.v, born := e.s } :: mE T r) n = _
    unfold gFind
    simp only [T.eq, decide_eq_false h.1]
    exact find_none r _ h.2
theorem find_some {x : K} : ∀ (es : List (Ent K)) (n : Nat), x ∈ mkeys es → ∃ v s, gFind P T.kt (T.kv x) (mE T es) n = some (some (n + posK es x, { key := T.kv x, val := v, born := s })) ∧ getM es x = some v ∧ posK es x < es.length ∧ ⟨x, v, s⟩ ∈ es
  | [], _, h => by cases h
  | e :: r, n, h => by
    show ∃ v s, gFind P T.kt (T.kv x) ({ key := T.kv e.k, val := e.v, born := e.s } :: mE T r) n = _ ∧ _
    unfold gFind posK getM
    by_cases hx : x = e.k
    · subst hx
      simp only [T.eq, decide_true, if_true]
      exact ⟨e.v, e.s, rfl, rfl, by simp, by simp⟩
    · simp only [T.eq, decide_eq_false hx, if_neg hx]
      rw [mkeys_cons, List.mem_cons] at h
      obtain ⟨v, s, h1, h2, h3, h4⟩ := find_some r (n + 1) (h.resolve_left hx)
      exact ⟨v, s, by rw [h1, show n + 1 + posK r x = n + (posK r x + 1) by omega], h2, by simp only [List.length_cons]; omega, by simp [h4]⟩
theorem get_none {x : K} : ∀ es : List (Ent K), x ∉ mkeys es → getM es x = none
  | [], _ => rfl
  | e :: r, h => by
    rw [mkeys_cons, List.mem_cons, not_or] at h
    unfold getM
    rw [if_neg h.1]
    exact get_none r h.2
theorem get_mem {e : Ent K} : ∀ es : List (Ent K), (mkeys es).Nodup → e ∈ es → getM es e.k = some e.v
  | [], _, h => by cases h
  | e' :: r, hnd, h => by
    rw [mkeys_cons, List.nodup_cons] at hnd
    unfold getM
    rcases List.mem_cons.1 h with h | h
    · subst h; rw [if_pos rfl]
    · rw [if_neg (fun he : e.k = e'.k => hnd.1 (by rw [← he]; exact List.mem_map.2 ⟨e, h, rfl⟩))]
      exact get_mem r hnd.2 h
theorem get_some {x : K} {v : Value} : ∀ es : List (Ent K), getM es x = some v → ∃ s, ⟨x, v, s⟩ ∈ es
  | [], h => by cases h
  | e :: r, h => by
    unfold getM at h
    by_cases hx : x = e.k
    · rw [if_pos hx] at h
      injection h with h
      subst h; subst hx
      exact ⟨e.s, by simp⟩
    · rw [if_neg hx] at h
      obtain ⟨s, hs⟩ := get_some r h
      exact ⟨s, by simp [hs]⟩
theorem mkeys_setV (x : K) (v : Value) : ∀ es : List (Ent K), mkeys (setV es x v) = mkeys es
  | [] => rfl
  | e :: r => by
    unfold setV
    split
    · rfl
    · rw [mkeys_cons, mkeys_cons, mkeys_setV x v r]
theorem stamps_setV (x : K) (v : Value) : ∀ es : List (Ent K), (setV es x v).map (·.s) = es.map (·.s)
  | [] => rfl
  | e :: r => by
    unfold setV
    split
    · rfl
    · rw [List.map_cons, List.map_cons, stamps_setV x v r]
theorem get_setV {x y : K} {v : Value} : ∀ es : List (Ent K), x ∈ mkeys es → getM (setV es x v) y = if y = x then some v else getM es y
  | [], h => by cases h
  | e :: r, h => by
    rw [mkeys_cons, List.mem_cons] at h
    unfold setV
    by_cases hx : x = e.k
    · rw [if_pos hx]
      unfold getM
      by_cases hy : y = x
      · rw [if_pos hy, if_pos (by rw [hy, hx])]
      · rw [if_neg hy, if_neg (by rw [← hx]; exact hy), if_neg (by rw [← hx]; exact hy)]
    · rw [if_neg hx]
      unfold getM
      rw [get_setV r (h.resolve_left hx)]
      by_cases hy : y = e.k
      · rw [if_pos hy, if_pos hy, if_neg (fun h : y = x => hx (by rw [← h]; exact hy))]
      · rw [if_neg hy, if_neg hy]
theorem get_app {x y : K} {v : Value} {s : Nat} : ∀ es : List (Ent K), x ∉ mkeys es → getM (es ++ [⟨x, v, s⟩]) y = if y = x then some v else getM es y
  | [], _ => by
    unfold getM
    by_cases hy : y = x
    · rw [if_pos hy]; simp [hy, getM]
    · rw [if_neg hy]; simp [hy, getM]
  | e :: r, h => by
    rw [mkeys_cons, List.mem_cons, not_or] at h
    rw [List.cons_append]
    unfold getM
    rw [get_app r h.2]
    by_cases hy : y = e.k
    · rw [if_pos hy, if_pos hy, if_neg (fun h' : y = x => h.1 (by rw [← h']; exact hy))]
    · rw [if_neg hy, if_neg hy]
theorem get_put {es : List (Ent K)} {x y : K} {v : Value} {clock : Nat} : getM (putM es x v clock) y = if y = x then some v else getM es y := by
  unfold putM
  split
  · next h => exact get_setV es h
  · next h => exact get_app es h
theorem get_del {x y : K} : ∀ es : List (Ent K), (mkeys es).Nodup → getM (delM es x) y = if y = x then none else getM es y
  | [], _ => by unfold delM getM; split <;> rfl
  | e :: r, hnd => by
    rw [mkeys_cons, List.nodup_cons] at hnd
    unfold delM
    by_cases hx : x = e.k
    · rw [if_pos hx]
      by_cases hy : y = x
      · rw [if_pos hy, get_none r (by rw [hy, hx]; exact hnd.1)]
      · rw [if_neg hy]
        conv => rhs; unfold getM
        rw [if_neg (fun h => hy (h.trans hx.symm))]
    · rw [if_neg hx]
      unfold getM
      rw [get_del r hnd.2]
      by_cases hy : y = e.k
      · rw [if_pos hy, if_pos hy, if_neg (fun h : y = x => hx (by rw [← h]; exact hy))]
      · rw [if_neg hy, if_neg hy]
theorem del_sub {x : K} : ∀ es : List (Ent K), (delM es x).Sublist es
  | [] => .slnil
  | e :: r => by
    unfold delM
    split
    · exact List.sublist_cons_self e r
    · exact (del_sub r).cons_cons e
theorem mem_setV {x : K} {v : Value} {e : Ent K} : ∀ es : List (Ent K), e ∈ setV es x v → ∃ e' ∈ es, e'.s = e.s ∧ e'.k = e.k
  | [], h => by cases h
  | e' :: r, h => by
    unfold setV at h
    split at h
    · rcases List.mem_cons.1 h with h | h
      · subst h; exact ⟨e', by simp, rfl, rfl⟩
      · exact ⟨e, by simp [h], rfl, rfl⟩
    · rcases List.mem_cons.1 h with h | h
      · subst h; exact ⟨e, by simp, rfl, rfl⟩
      · obtain ⟨e2, h1, h2⟩ := mem_setV r h
        exact ⟨e2, by simp [h1], h2⟩
theorem WfM.put {es : List (Ent K)} {clock : Nat} (h : WfM es clock) (x : K) (v : Value) : WfM (putM es x v clock) (clockM es x clock) := by
  unfold putM clockM
  split
  · refine ⟨by rw [mkeys_setV]; exact h.nd, by rw [stamps_setV]; exact h.st, fun e he => ?_⟩
    obtain ⟨e', h1, h2, _⟩ := mem_setV es he
    rw [← h2]; exact h.lt e' h1
  · next hx =>
    refine ⟨?_, ?_, fun e he => ?_⟩
    · rw [mkeys, List.map_append]
      refine List.nodup_append.2 ⟨h.nd, by simp, fun a ha b hb => ?_⟩
      simp only [List.map_cons, List.map_nil, List.mem_singleton] at hb
      subst hb; intro e; subst e; exact hx ha
    · rw [List.map_append]
      refine List.nodup_append.2 ⟨h.st, by simp, fun a ha b hb => ?_⟩
      simp only [List.map_cons, List.map_nil, List.mem_singleton] at hb
      subst hb
      obtain ⟨e, he, rfl⟩ := List.mem_map.1 ha
      have := h.lt e he
      omega
    · rcases List.mem_append.1 he with he | he
      · have := h.lt e he; omega
      · rw [List.mem_singleton] at he; subst he; simp
theorem WfM.del {es : List (Ent K)} {clock : Nat} (h : WfM es clock) (x : K) : WfM (delM es x) clock :=
  ⟨h.nd.sublist ((del_sub es).map _), h.st.sublist ((del_sub es).map _), fun e he => h.lt e ((del_sub es).subset he)⟩
theorem modV {x : K} {v : Value} : ∀ es : List (Ent K), x ∈ mkeys es → (mE T es).modify (posK es x) (fun e => { e with val := v }) = mE T (setV es x v)
  | [], h => by cases h
  | e :: r, h => by
    rw [mkeys_cons, List.mem_cons] at h
    unfold posK setV
    by_cases hx : x = e.k
    · rw [if_pos hx, if_pos hx]; rfl
    · rw [if_neg hx, if_neg hx]
      show ({ key := T.kv e.k, val := e.v, born := e.s } :: mE T r).modify (posK r x + 1) _ = _
      rw [List.modify_succ_cons, modV r (h.resolve_left hx)]
      rfl
theorem modKV {x : K} {v : Value} : ∀ es : List (Ent K), x ∈ mkeys es → (mE T es).modify (posK es x) (fun e => { e with key := T.kv x, val := v }) = mE T (setV es x v)
  | [], h => by cases h
  | e :: r, h => by
    rw [mkeys_cons, List.mem_cons] at h
    unfold posK setV
    by_cases hx : x = e.k
    · rw [if_pos hx, if_pos hx, hx]; rfl
    · rw [if_neg hx, if_neg hx]
      show ({ key := T.kv e.k, val := e.v, born := e.s } :: mE T r).modify (posK r x + 1) _ = _
      rw [List.modify_succ_cons, modKV r (h.resolve_left hx)]
      rfl
theorem eraseK {x : K} : ∀ es : List (Ent K), x ∈ mkeys es → (mE T es).eraseIdx (posK es x) = mE T (delM es x)
  | [], h => by cases h
  | e :: r, h => by
    rw [mkeys_cons, List.mem_cons] at h
    unfold posK delM
    by_cases hx : x = e.k
    · rw [if_pos hx, if_pos hx]; rfl
    · rw [if_neg hx, if_neg hx]
      show ({ key := T.kv e.k, val := e.v, born := e.s } :: mE T r).eraseIdx (posK r x + 1) = _
      rw [List.eraseIdx_cons_succ, eraseK r (h.resolve_left hx)]
      rfl
section
variable {H : GH} {R clock : Nat} {es : List (Ent K)}
/-- A look-up. -/
theorem map_look (h : H.get R = some (.map (mE T es) clock)) (x : K) : gLookup P t (.map (some R)) (T.kv x) false H = some ((getM es x).getD T.z) := by
  unfold gLookup
  simp only [T.und, T.ok, if_true, gMap, h, Option.map_some, T.zero]
  by_cases hx : x ∈ mkeys es
  · obtain ⟨v, s, h1, h2, _⟩ := find_some (T := T) es 0 hx
    simp only [h1, h2, Bool.false_eq_true, if_false, Option.getD_some]
  · simp only [find_none (T := T) es 0 hx, get_none es hx, Bool.false_eq_true, if_false, Option.getD_none]
theorem map_look2 (h : H.get R = some (.map (mE T es) clock)) (x : K) : gLookup P t (.map (some R)) (T.kv x) true H = some (.tuple #[(getM es x).getD T.z, .bool (decide (x ∈ mkeys es))]) := by
  unfold gLookup
  simp only [T.und, T.ok, if_true, gMap, h, Option.map_some, T.zero]
  by_cases hx : x ∈ mkeys es
  · obtain ⟨v, s, h1, h2, _⟩ := find_some (T := T) es 0 hx
    simp only [h1, h2, if_true, Option.getD_some, decide_eq_true hx]
  · simp only [find_none (T := T) es 0 hx, get_none es hx, if_true, Option.getD_none, decide_eq_false hx]
/-- A key is set. -/
theorem map_put (h : H.get R = some (.map (mE T es) clock)) (x : K) (v : Value) : gMapUpdate P t (.map (some R)) (T.kv x) v H = some (H.set R (.map (mE T (putM es x v clock)) (clockM es x clock))) := by
  unfold gMapUpdate
  simp only [T.und, gMap, h, T.ok, if_true]
  unfold putM clockM
  by_cases hx : x ∈ mkeys es
  · obtain ⟨v', s, h1, _⟩ := find_some (T := T) es 0 hx
    simp only [h1, T.same, if_true, if_pos hx, Nat.zero_add, modKV es hx]
  · simp only [find_none (T := T) es 0 hx, if_neg hx]
    unfold mE
    rw [List.map_append]
    rfl
/-- A key is struck. -/
theorem map_del (h : H.get R = some (.map (mE T es) clock)) (x : K) : gDelete P t (.map (some R)) (T.kv x) H = some (H.set R (.map (mE T (delM es x)) clock)) := by
  have hno : ∀ es : List (Ent K), x ∉ mkeys es → delM es x = es := by
    intro es
    induction es with
    | nil => intro _; rfl
    | cons e r ih =>
      intro hx
      rw [mkeys_cons, List.mem_cons, not_or] at hx
      unfold delM
      rw [if_neg hx.1, ih hx.2]
  unfold gDelete
  simp only [T.und, gMap, h, T.ok, if_true]
  by_cases hx : x ∈ mkeys es
  · obtain ⟨v', s, h1, _⟩ := find_some (T := T) es 0 hx
    simp only [h1, Nat.zero_add, eraseK es hx]
  · simp only [find_none (T := T) es 0 hx, hno es hx]
variable {I : Nat} {seen : List Nat}
theorem map_next (hw : WfM es clock) (hI : H.get I = some (.mapIter (some R) clock seen clock)) (hM : H.get R = some (.map (mE T es) clock)) :
    gNext (.pointer (some ⟨I, 0, none⟩)) false H = some ((if (leftE es seen).isEmpty then [(.tuple #[.bool false], H.set I .dead)] else []) ++
      (leftE es seen).map fun e => (.tuple #[.bool true, T.kv e.k, e.v], H.set I (.mapIter (some R) clock (seen ++ [e.s]) clock))) := by
  unfold gNext
  simp only [hI, hM]
  have h1 : (!seen.isEmpty && !(mE T es).isEmpty && (mE T es).all (fun e => decide (e.born ≥ clock))) = false := by
    cases es with
    | nil => simp [mE]
    | cons a r =>
      have ha := hw.lt a (by simp)
      have : ((mE T (a :: r)).all fun e => decide (e.born ≥ clock)) = false := by
        show (decide (a.s ≥ clock) && _) = false
        rw [decide_eq_false (by omega), Bool.false_and]
      rw [this, Bool.and_false]
  rw [h1]
  simp only [Bool.false_eq_true, if_false]
  have hf : ∀ l : List (Ent K), (mE T l).filter (fun e => !seen.contains e.born) = mE T (leftE l seen) := by
    intro l
    unfold mE leftE
    rw [List.filter_map]
    rfl
  rw [hf]
  have ho : (mE T (leftE es seen)).filter (fun e => decide (e.born < clock)) = mE T (leftE es seen) := by
    rw [List.filter_eq_self]
    intro e he
    obtain ⟨e', h2, rfl⟩ := List.mem_map.1 he
    have := hw.lt e' (List.mem_filter.1 h2).1
    simpa using this
  have hn : (mE T (leftE es seen)).filter (fun e => decide (e.born ≥ clock)) = [] := by
    rw [List.filter_eq_nil_iff]
    intro e he
    obtain ⟨e', h2, rfl⟩ := List.mem_map.1 he
    have := hw.lt e' (List.mem_filter.1 h2).1
    simpa using this
  rw [ho, hn, List.append_nil]
  unfold mE
  rw [List.isEmpty_map, List.map_map]
  rfl
theorem map_entry (hw : WfM es clock) {e : Ent K} (he : e ∈ es) (hI : H.get I = some (.mapIter (some R) clock (seen ++ [e.s]) clock)) (hM : H.get R = some (.map (mE T es) clock)) :
    gEntry (.pointer (some ⟨I, 0, none⟩)) H = some (.tuple #[T.kv e.k, e.v]) := by
  unfold gEntry
  simp only [hI, List.getLast?_concat, hM]
  rw [if_neg (by simp)]
  have hf : ((mE T es).find? fun e' => e'.born == e.s) = some { key := T.kv e.k, val := e.v, born := e.s } := by
    have : ∀ l : List (Ent K), (l.map (·.s)).Nodup → e ∈ l → (mE T l).find? (fun e' => e'.born == e.s) = some { key := T.kv e.k, val := e.v, born := e.s } := by
      intro l
      induction l with
      | nil => intro _ h; cases h
      | cons a r ih =>
        intro hnd h
        rw [List.map_cons, List.nodup_cons] at hnd
        show ({ key := T.kv a.k, val := a.v, born := a.s } :: mE T r).find? _ = _
        rcases List.mem_cons.1 h with h | h
        · subst h; simp
        · have hne : (a.s == e.s) = false := by
            rw [beq_eq_false_iff_ne]; intro hs; exact hnd.1 (hs ▸ List.mem_map.2 ⟨e, h, rfl⟩)
          rw [List.find?_cons]
          simp only [hne]
          exact ih hnd.2 h
    exact this es hw.st he
  rw [hf]
theorem map_range (h : H.get R = some (.map (mE T es) clock)) : gRange P t (.map (some R)) H = some (.pointer (some ⟨H.n, 0, none⟩), H.push (.mapIter (some R) clock [] clock)) := by
  unfold gRange
  simp only [T.und, h]
/-- A walk through a map, in any order: V: what is shown of each entry passed. -/
theorem map_walk {Q : Value × GH → Prop} {H0 : GH} (hw : WfM es clock) (hI0 : H0.n ≤ I) (hIR : I ≠ R) (V : Ent K → Prop) {sg : Nat → GH → M (Value × GH)} {stop : GH → M (Value × GH)} {go : Value → Value → GH → M (Value × GH) → M (Value × GH)}
    (hunf : ∀ r H, sg (r + 1) H = onNext 0 (gNext (.pointer (some ⟨I, 0, none⟩)) false H) fun v1 H2 => onV (oExtract v1 0) fun v3 => onBool (asB v3) (onV (gEntry (.pointer (some ⟨I, 0, none⟩)) H2) fun v4 => go v1 v4 H2 (sg r H2)) (stop H2))
    (hgo : ∀ e ∈ es, ∀ H2 nx v1, Ext H0 H2 → (V e → All nx Q) → All (go v1 (.tuple #[T.kv e.k, e.v]) H2 nx) Q)
    (hstop : (∀ e ∈ es, V e) → ∀ H2, Ext H0 H2 → All (stop H2) Q) :
    ∀ (r : Nat) (seen : List Nat) (H : GH), (leftE es seen).length < r → Ext H0 H → H.get I = some (.mapIter (some R) clock seen clock) → H.get R = some (.map (mE T es) clock) →
      (∀ e ∈ es, seen.contains e.s = true → V e) → All (sg r H) Q := by
  intro r
  induction r with
  | zero => intro seen H h; omega
  | succ r ih =>
    intro seen H hr hE hI hM hall
    rw [hunf]
    unfold onNext
    simp only
    have hIn := GH.get_lt hI
    refine All.bind' (R := fun x => (x = (.tuple #[.bool false], H.set I .dead) ∧ leftE es seen = []) ∨ ∃ e ∈ leftE es seen, x = (.tuple #[.bool true, T.kv e.k, e.v], H.set I (.mapIter (some R) clock (seen ++ [e.s]) clock))) ⟨_, map_next hw hI hM, fun x hx => ?_⟩ fun x hx => ?_
    · rcases List.mem_append.1 hx with hx | hx
      · split at hx
        · next he =>
          rw [List.mem_singleton] at hx
          exact .inl ⟨hx, by simpa using he⟩
        · cases hx
      · obtain ⟨e, he, h⟩ := List.mem_map.1 hx
        exact .inr ⟨e, he, h.symm⟩
    · rcases hx with ⟨rfl, hl⟩ | ⟨e, he, rfl⟩
      · have e0 : oExtract (.tuple #[.bool false]) 0 = some (.bool false) := rfl
        simp only [e0, onV_s, asB_b, onBool_f]
        refine hstop (fun e he => ?_) _ (hE.set hI0 hIn _)
        refine hall e he ?_
        cases hc : seen.contains e.s with
        | true => rfl
        | false =>
          have : e ∈ leftE es seen := List.mem_filter.2 ⟨he, by rw [hc]; rfl⟩
          rw [hl] at this; cases this
      · have hem : e ∈ es := (List.mem_filter.1 he).1
        have e0 : oExtract (.tuple #[.bool true, T.kv e.k, e.v]) 0 = some (.bool true) := rfl
        have hI' : (H.set I (.mapIter (some R) clock (seen ++ [e.s]) clock)).get I = _ := GH.get_set_same hI
        have hM' : (H.set I (.mapIter (some R) clock (seen ++ [e.s]) clock)).get R = _ := (GH.get_set_other hIR hIn).trans hM
        simp only [e0, onV_s, asB_b, onBool_t, map_entry hw hem hI' hM']
        have hE' := hE.set hI0 hIn (.mapIter (some R) clock (seen ++ [e.s]) clock)
        refine hgo e hem _ _ _ hE' fun hV => ih (seen ++ [e.s]) _ (by have := leftE_lt he; omega) hE' hI' hM' fun e' he' hs => ?_
        simp only [List.contains_eq_mem, decide_eq_true_eq, List.mem_append, List.mem_singleton] at hs
        rcases hs with hs | hs
        · exact hall e' he' (by simpa using hs)
        · have : e' = e := by
            have h1 : ∀ l : List (Ent K), (l.map (·.s)).Nodup → e ∈ l → e' ∈ l → e' = e := by
              intro l
              induction l with
              | nil => intro _ h; cases h
              | cons a r ih =>
                intro hnd h h'
                rw [List.map_cons, List.nodup_cons] at hnd
                rcases List.mem_cons.1 h with h | h <;> rcases List.mem_cons.1 h' with h' | h'
                · rw [h, h']
                · exact absurd (List.mem_map.2 ⟨e', h', by rw [hs, h]⟩) hnd.1
                · exact absurd (List.mem_map.2 ⟨e, h, by rw [← hs, h']⟩) hnd.1
                · exact ih hnd.2 h h'
            exact h1 es hw.st hem he'
          subst this; exact hV
end
end
end Go.Gh
/- The ghost machine: slices of slices over a row; cells cut off in front. -/
namespace Go.Gh
set_option linter.unusedVariables false
set_option linter.unusedSimpArgs false

section
variable {α : Type} {A : Ty α} {P : Program} {H H' H0 : GH} {v y : Value} {xs ys : List α} {t e b i m c o sz n : Nat} {cs new : List Value}
theorem CellsR.drop (h : CellsR A H cs xs) (i : Nat) : CellsR A H (cs.drop (i * A.sz)) (xs.drop i) := by
  induction h generalizing i with
  | nil => simp; exact .nil
  | @cons c cs x xs h t ih =>
    cases i with
    | zero => rw [Nat.zero_mul, List.drop_zero, List.drop_zero]; exact .cons h t
    | succ i =>
      rw [List.drop_succ_cons, Nat.succ_mul, List.drop_append, List.drop_of_length_le (by rw [A.len h]; omega), List.nil_append, A.len h, Nat.add_sub_cancel]
      exact ih i
theorem bnd {k : IntKind} {n y : Nat} (h : n ≤ y) : gBound (.int k n) y = some n := by
  unfold gBound
  simp only
  rw [if_pos ⟨by omega, by omega⟩, Int.toNat_natCast]
theorem addr_add : (if m = i then (⟨b, o, none⟩ : Addr) else Addr.add ⟨b, o, none⟩ (i * sz)) = ⟨b, if m = i then o else o + i * sz, none⟩ := by
  by_cases h : m = i
  · rw [if_pos h, if_pos h]
  · rw [if_neg h, if_neg h]
    unfold Addr.add
    by_cases h0 : i * sz = 0
    · simp [h0]
    · simp [h0]
theorem slice_to {k : IntKind} (hst : P.underlying t = some (.slice e)) (hs : gSize P e = some sz) (hc : c < loose) (h : m ≤ c) :
    oSlice P t (.slice (some ⟨b, o, none⟩) n c) none (some (.int k m)) none = some (.slice (some ⟨b, o, none⟩) m c) := by
  unfold oSlice
  simp only [hst, hs]
  unfold gSliceSl
  simp only
  rw [if_neg (by omega)]
  simp only [optB, bnd h]
  rw [addr_add]
  simp
theorem slice_from {k : IntKind} (hst : P.underlying t = some (.slice e)) (hs : gSize P e = some sz) (hc : c < loose) (h : i ≤ n) (hn : n ≤ c) :
    oSlice P t (.slice (some ⟨b, o, none⟩) n c) (some (.int k i)) none none = some (.slice (some ⟨b, if c = i then o else o + i * sz, none⟩) (n - i) (c - i)) := by
  unfold oSlice
  simp only [hst, hs]
  unfold gSliceSl
  simp only
  rw [if_neg (by omega)]
  simp only [optB, bnd h, Option.isSome_none, Bool.false_eq_true, if_false]
  rw [addr_add]
theorem slice_mid {k k' : IntKind} (hst : P.underlying t = some (.slice e)) (hs : gSize P e = some sz) (hc : c < loose) (h : i ≤ m) (hn : m ≤ c) :
    oSlice P t (.slice (some ⟨b, o, none⟩) n c) (some (.int k i)) (some (.int k' m)) none = some (.slice (some ⟨b, if c = i then o else o + i * sz, none⟩) (m - i) (c - i)) := by
  unfold oSlice
  simp only [hst, hs]
  unfold gSliceSl
  simp only
  rw [if_neg (by omega)]
  simp only [optB, bnd h, bnd hn]
  rw [addr_add]
theorem slice_max {k k' k2 : IntKind} {x : Nat} (hst : P.underlying t = some (.slice e)) (hs : gSize P e = some sz) (hc : c < loose) (h : i ≤ m) (hn : m ≤ x) (hx : x ≤ c) :
    oSlice P t (.slice (some ⟨b, o, none⟩) n c) (some (.int k i)) (some (.int k' m)) (some (.int k2 x)) = some (.slice (some ⟨b, if x = i then o else o + i * sz, none⟩) (m - i) (x - i)) := by
  unfold oSlice
  simp only [hst, hs]
  unfold gSliceSl
  simp only
  rw [if_neg (by omega)]
  simp only [optB, bnd h, bnd hn, bnd hx]
  rw [addr_add]
theorem slice_fromL {k : IntKind} (hst : P.underlying t = some (.slice e)) (hs : gSize P e = some sz) (h : i ≤ n) (hn : n < loose) :
    oSlice P t (.slice (some ⟨b, o, none⟩) n (loose + sz)) (some (.int k i)) none none = some (.slice (some ⟨b, o + i * sz, none⟩) (n - i) (loose + sz)) := by
  unfold oSlice
  simp only [hst, hs]
  unfold gSliceSl
  simp only
  rw [if_pos (by omega), if_pos ⟨trivial, hn⟩]
  simp only [optB, bnd h]
  unfold Addr.add
  by_cases h0 : i * sz = 0
  · simp [h0]
  · simp [h0]
end
end Go.Gh
/- The ghost machine: slices of slices, wherever they lie. -/
namespace Go.Gh
set_option linter.unusedVariables false
set_option linter.unusedSimpArgs false

/-- A slice whose room is known to be enough, or to be grown: it may be sliced. -/
def Sc {α : Type} (A : Ty α) (e : TypeId) (H : GH) (v : Value) (xs : List α) : Prop :=
  (v = .slice none 0 0 ∧ xs = []) ∨ ∃ b o c row ro cs, v = .slice (some ⟨b, o, none⟩) xs.length c ∧ H.get b = some (.row row e ro) ∧ o + cs.length ≤ row.length ∧ (row.drop o).take cs.length = cs ∧ CellsR A H cs xs ∧ ((c < loose ∧ xs.length ≤ c) ∨ (c = loose + A.sz ∧ xs.length < loose))
section
variable {α : Type} {A : Ty α} {P : Program} {H H' H0 : GH} {v : Value} {xs : List α} {t e b i m c o o' c' : Nat} {row cs : List Value} {ro : Bool} {k k' k2 : IntKind}
theorem Sc.slr (h : Sc A e H v xs) : SlR A H v xs := by
  rcases h with h | ⟨b, o, c, row, ro, cs, h1, h2, h3, h4, h5, _⟩
  · exact .inl h
  · exact .inr ⟨b, o, c, row, e, ro, cs, h1, h2, h3, h4, h5⟩
theorem Sc.mono (hE : Ext H H') (h : Sc A e H v xs) : Sc A e H' v xs := by
  rcases h with h | ⟨b, o, c, row, ro, cs, h1, h2, h3, h4, h5, h6⟩
  · exact .inl h
  · exact .inr ⟨b, o, c, row, ro, cs, h1, hE.get_of h2, h3, h4, h5.mono hE, h6⟩
theorem Sc.keep (hA : A.Flat) (hk : ∀ q row ro, H.get q = some (.row row e ro) → H'.get q = some (.row row e ro)) (h : Sc A e H v xs) : Sc A e H' v xs := by
  rcases h with h | ⟨b, o, c, row, ro, cs, h1, h2, h3, h4, h5, h6⟩
  · exact .inl h
  · exact .inr ⟨b, o, c, row, ro, cs, h1, hk _ _ _ h2, h3, h4, h5.flat hA, h6⟩
theorem off_or {c i m o x : Nat} (h : c = i → i = m) : (if c = i then o else o + x) = o + x ∨ (i = m ∧ (if c = i then o else o + x) = o) := by
  by_cases hh : c = i
  · exact .inr ⟨h hh, if_pos hh⟩
  · exact .inl (if_neg hh)
theorem Sc.nil : Sc A e H (.slice none 0 0) [] := .inl ⟨rfl, rfl⟩
theorem Own.sc (hE : Ext H0 H) (hn : xs.length < loose) (h : Own A e H0 H v xs) : Sc A e H v xs := by
  rcases h with h | ⟨b, cs, h1, h2, h3, h4⟩
  · exact .inl h
  · exact .inr ⟨b, 0, _, cs, false, cs, h1, h3, by omega, by simp, h4.mono hE, .inr ⟨rfl, hn⟩⟩
theorem Cl.sc (h : Cl A e H0 H v xs) : Sc A e H v xs := by
  rcases h with h | ⟨b, c, cs, h1, h2, h3, h4, h5⟩
  · exact .inl h
  · exact .inr ⟨b, 0, c, cs, false, cs, h1, h3, by omega, by simp, h4, h5.symm.imp (fun h => ⟨h.1, Nat.le_of_eq h.2⟩) id⟩
theorem Sc.piece (hg : H.get b = some (.row row e ro)) (ho : o + cs.length ≤ row.length) (hcs : (row.drop o).take cs.length = cs) (hc : CellsR A H cs xs) (hi : i ≤ m) (hm : m ≤ xs.length)
    (ho' : o' = o + i * A.sz ∨ (i = m ∧ o' = o)) (hcap : (c' < loose ∧ m - i ≤ c') ∨ (c' = loose + A.sz ∧ m - i < loose)) : Sc A e H (.slice (some ⟨b, o', none⟩) (m - i) c') ((xs.drop i).take (m - i)) := by
  have hl : ((xs.drop i).take (m - i)).length = m - i := by rw [List.length_take, List.length_drop]; omega
  have hcl := hc.length
  have h1 : m * A.sz ≤ xs.length * A.sz := Nat.mul_le_mul_right _ hm
  have h2 : i * A.sz + (m - i) * A.sz = m * A.sz := by rw [← Nat.add_mul]; congr 1; omega
  have hc2 := (hc.drop i).take (m - i)
  rw [hl] at hc2
  have hcl2 : ((cs.drop (i * A.sz)).take ((m - i) * A.sz)).length = (m - i) * A.sz := by rw [List.length_take, List.length_drop]; omega
  rcases ho' with rfl | ⟨rfl, rfl⟩
  · refine .inr ⟨b, _, c', row, ro, (cs.drop (i * A.sz)).take ((m - i) * A.sz), by rw [hl], hg, by rw [hcl2]; omega, ?_, hc2, by rw [hl]; exact hcap⟩
    rw [hcl2]
    conv => rhs; rw [← hcs]
    rw [List.drop_take, List.take_take, List.drop_drop, Nat.min_eq_left (by omega)]
  · refine .inr ⟨b, o', c', row, ro, [], by rw [hl], hg, by simp; omega, by simp, ?_, by rw [hl]; exact hcap⟩
    rw [Nat.sub_self, List.take_zero]
    exact .nil
theorem sl_L {sz n : Nat} (hst : P.underlying t = some (.slice e)) (hs : gSize P e = some sz) (hi : i ≤ m) (hm : m ≤ n) (hn : n < loose) :
    oSlice P t (.slice (some ⟨b, o, none⟩) n (loose + sz)) (some (.int k i)) (some (.int k' m)) none = some (.slice (some ⟨b, o + i * sz, none⟩) (m - i) (loose + sz)) := by
  unfold oSlice
  simp only [hst, hs]
  unfold gSliceSl
  simp only
  rw [if_pos (by omega), if_pos ⟨trivial, hn⟩]
  simp only [optB, bnd hm, bnd hi]
  unfold Addr.add
  by_cases h0 : i * sz = 0
  · simp [h0]
  · simp [h0]
theorem sl_toL {sz n : Nat} (hst : P.underlying t = some (.slice e)) (hs : gSize P e = some sz) (hm : m ≤ n) (hn : n < loose) :
    oSlice P t (.slice (some ⟨b, o, none⟩) n (loose + sz)) none (some (.int k m)) none = some (.slice (some ⟨b, o, none⟩) m (loose + sz)) := by
  unfold oSlice
  simp only [hst, hs]
  unfold gSliceSl
  simp only
  rw [if_pos (by omega), if_pos ⟨trivial, hn⟩]
  simp only [optB, bnd hm, Nat.zero_mul, Nat.sub_zero]
  rfl
theorem sl_3L {sz n : Nat} (hst : P.underlying t = some (.slice e)) (hs : gSize P e = some sz) (hi : i ≤ m) (hm : m ≤ n) (hn : n < loose) :
    oSlice P t (.slice (some ⟨b, o, none⟩) n (loose + sz)) (some (.int k i)) (some (.int k' m)) (some (.int k2 m)) = some (.slice (some ⟨b, if m = i then o else o + i * sz, none⟩) (m - i) (m - i)) := by
  unfold oSlice
  simp only [hst, hs]
  unfold gSliceSl
  simp only
  rw [if_pos (by omega), if_pos ⟨trivial, hn⟩]
  simp only [optB, bnd hm, bnd hi, bnd (Nat.le_refl m)]
  rw [addr_add]
theorem gSl_nil {sz : Nat} {lo hi mx : Option Value} (h1 : ∀ v, lo = some v → gBound v 0 = some 0) (h2 : ∀ v, hi = some v → gBound v 0 = some 0) (h3 : ∀ v, mx = some v → gBound v 0 = some 0) (hh : mx.isSome = true → hi.isSome = true) : gSliceSl sz none 0 0 lo hi mx = some (.slice none 0 0) := by
  unfold gSliceSl
  simp only
  rw [if_pos ⟨trivial, trivial, hh⟩]
  have e : ∀ x : Option Value, (∀ v, x = some v → gBound v 0 = some 0) → optB x 0 0 = some 0 := fun x hx => by
    cases x with
    | none => rfl
    | some v => exact hx v rfl
  rw [e mx h3, e hi h2, e lo h1]
theorem oSl_nil (hst : P.underlying t = some (.slice e)) {sz : Nat} (hs : gSize P e = some sz) {lo hi mx : Option Value} : oSlice P t (.slice none 0 0) lo hi mx = gSliceSl sz none 0 0 lo hi mx := by
  unfold oSlice
  simp only [hst, hs]
theorem bnd0 {x : Nat} (h : x = 0) : ∀ v, some (Value.int k (x : Int)) = some v → gBound v 0 = some 0 := fun v hv => by
  injection hv with hv
  subst hv
  subst h
  exact bnd (Nat.le_refl 0)
theorem Sc.mid (h : Sc A e H v xs) (hst : P.underlying t = some (.slice e)) (hs : gSize P e = some A.sz) (hi : i ≤ m) (hm : m ≤ xs.length) :
    ∃ v', oSlice P t v (some (.int k i)) (some (.int k' m)) none = some v' ∧ Sc A e H v' ((xs.drop i).take (m - i)) := by
  rcases h with ⟨rfl, rfl⟩ | ⟨b, o, c, row, ro, cs, rfl, h2, h3, h4, h5, h6⟩
  · have hm0 : m = 0 := by simpa using hm
    have hi0 : i = 0 := by omega
    exact ⟨_, (oSl_nil hst hs).trans (gSl_nil (bnd0 hi0) (bnd0 hm0) (fun _ h => by cases h) (fun h => by cases h)), by rw [List.drop_nil, List.take_nil]; exact .nil⟩
  · rcases h6 with ⟨h6, h7⟩ | ⟨rfl, h7⟩
    · exact ⟨_, slice_mid hst hs h6 hi (by omega), Sc.piece h2 h3 h4 h5 hi hm (off_or fun h => by omega) (.inl ⟨by omega, by omega⟩)⟩
    · exact ⟨_, sl_L hst hs hi hm h7, Sc.piece h2 h3 h4 h5 hi hm (.inl rfl) (.inr ⟨rfl, by omega⟩)⟩
theorem Sc.from (h : Sc A e H v xs) (hst : P.underlying t = some (.slice e)) (hs : gSize P e = some A.sz) (hi : i ≤ xs.length) :
    ∃ v', oSlice P t v (some (.int k i)) none none = some v' ∧ Sc A e H v' (xs.drop i) := by
  rcases h with ⟨rfl, rfl⟩ | ⟨b, o, c, row, ro, cs, rfl, h2, h3, h4, h5, h6⟩
  · have hi0 : i = 0 := by simpa using hi
    exact ⟨_, (oSl_nil hst hs).trans (gSl_nil (bnd0 hi0) (fun _ h => by cases h) (fun _ h => by cases h) (fun h => by cases h)), by rw [List.drop_nil]; exact .nil⟩
  · have e1 : (xs.drop i).take (xs.length - i) = xs.drop i := List.take_of_length_le (by rw [List.length_drop]; omega)
    rcases h6 with ⟨h6, h7⟩ | ⟨rfl, h7⟩
    · have := Sc.piece (c' := c - i) (o' := if c = i then o else o + i * A.sz) h2 h3 h4 h5 hi (Nat.le_refl _) (off_or fun h => by omega) (.inl ⟨by omega, by omega⟩)
      rw [e1] at this
      exact ⟨_, slice_from hst hs h6 hi h7, this⟩
    · have := Sc.piece (c' := loose + A.sz) h2 h3 h4 h5 hi (Nat.le_refl _) (.inl rfl) (.inr ⟨rfl, by omega⟩)
      rw [e1] at this
      exact ⟨_, slice_fromL hst hs hi h7, this⟩
theorem Sc.to (h : Sc A e H v xs) (hst : P.underlying t = some (.slice e)) (hs : gSize P e = some A.sz) (hm : m ≤ xs.length) :
    ∃ v', oSlice P t v none (some (.int k m)) none = some v' ∧ Sc A e H v' (xs.take m) := by
  rcases h with ⟨rfl, rfl⟩ | ⟨b, o, c, row, ro, cs, rfl, h2, h3, h4, h5, h6⟩
  · have hm0 : m = 0 := by simpa using hm
    exact ⟨_, (oSl_nil hst hs).trans (gSl_nil (fun _ h => by cases h) (bnd0 hm0) (fun _ h => by cases h) (fun h => by cases h)), by rw [List.take_nil]; exact .nil⟩
  · rcases h6 with ⟨h6, h7⟩ | ⟨rfl, h7⟩
    · have := Sc.piece (i := 0) (c' := c) h2 h3 h4 h5 (Nat.zero_le m) hm (.inl rfl) (.inl ⟨h6, by omega⟩)
      rw [Nat.zero_mul, Nat.sub_zero, List.drop_zero] at this
      exact ⟨_, slice_to hst hs h6 (by omega), this⟩
    · have := Sc.piece (i := 0) (c' := loose + A.sz) h2 h3 h4 h5 (Nat.zero_le m) hm (.inl rfl) (.inr ⟨rfl, by omega⟩)
      rw [Nat.zero_mul, Nat.sub_zero, List.drop_zero] at this
      exact ⟨_, sl_toL hst hs hm h7, this⟩
theorem Sc.max (h : Sc A e H v xs) (hst : P.underlying t = some (.slice e)) (hs : gSize P e = some A.sz) (hi : i ≤ m) (hm : m ≤ xs.length) :
    ∃ v', oSlice P t v (some (.int k i)) (some (.int k' m)) (some (.int k2 m)) = some v' ∧ Sc A e H v' ((xs.drop i).take (m - i)) := by
  rcases h with ⟨rfl, rfl⟩ | ⟨b, o, c, row, ro, cs, rfl, h2, h3, h4, h5, h6⟩
  · have hm0 : m = 0 := by simpa using hm
    have hi0 : i = 0 := by omega
    exact ⟨_, (oSl_nil hst hs).trans (gSl_nil (bnd0 hi0) (bnd0 hm0) (bnd0 hm0) (fun _ => rfl)), by rw [List.drop_nil, List.take_nil]; exact .nil⟩
  · have hlo : m - i < loose := by rcases h6 with h | h <;> omega
    have hp : Sc A e H (.slice (some ⟨b, if m = i then o else o + i * A.sz, none⟩) (m - i) (m - i)) ((xs.drop i).take (m - i)) := Sc.piece h2 h3 h4 h5 hi hm (off_or fun h => h.symm) (.inl ⟨hlo, Nat.le_refl _⟩)
    rcases h6 with ⟨h6, h7⟩ | ⟨rfl, h7⟩
    · exact ⟨_, slice_max hst hs h6 hi (Nat.le_refl m) (by omega), hp⟩
    · exact ⟨_, sl_3L hst hs hi hm h7, hp⟩
end
end Go.Gh
