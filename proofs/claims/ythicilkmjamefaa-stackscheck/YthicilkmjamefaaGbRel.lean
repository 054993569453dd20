/- The ghost machine: how a ghost heap stands for a part of the real memory; steps and their composition. -/
import Derived.Test.YthicilkmjamefaaGaDefs
import Derived.Below
import Derived.TacticsIn
import Derived.Laws.CopyRow
import Derived.Laws.Cells
namespace Go.Gh
open Go.RowKit

/-- Where a ghost block lies: the real block, the place in it where it begins; of a row: how many cells the real block has, and an element's cells; may it be written? -/
structure Pin where
  blk : Nat
  off : Nat
  tot : Nat
  sz : Nat
  rw : Bool
abbrev PM := Nat → Option Pin
def PM.le (m m' : PM) : Prop := ∀ b p, m b = some p → m' b = some p
theorem PM.le.refl (m : PM) : PM.le m m := fun _ _ h => h
theorem PM.le.trans {a b c : PM} (h : PM.le a b) (k : PM.le b c) : PM.le a c := fun x p hx => k x p (h x p hx)

/-- A ghost value and the real one. -/
inductive VR (m : PM) : Value → Value → Prop
  | bool (b : Bool) : VR m (.bool b) (.bool b)
  | int (k : IntKind) (n : Int) : VR m (.int k n) (.int k n)
  | float (k : FloatKind) (b : Nat) : VR m (.float k b) (.float k b)
  | complex (k : FloatKind) (x y : Nat) : VR m (.complex k x y) (.complex k x y)
  | string (s : ByteArray) : VR m (.string s) (.string s)
  | ptrNil : VR m (.pointer none) (.pointer none)
  | ptr {b : Nat} {p : Pin} (o : Nat) (h : m b = some p) : VR m (.pointer (some ⟨b, o, none⟩)) (.pointer (some ⟨p.blk, p.off + o, none⟩))
  | sliceNil (n c : Nat) : VR m (.slice none n c) (.slice none n c)
  | slice {b : Nat} {p : Pin} (o o' n c : Nat) (h : m b = some p) (hc : c < loose) (hn : n ≤ c) (ho : 0 < c → o' = p.off + o) :
      VR m (.slice (some ⟨b, o, none⟩) n c) (.slice (some ⟨p.blk, o', none⟩) n c)
  | sliceL {b : Nat} {p : Pin} (o o' n c c' : Nat) (h : m b = some p) (hc : c = loose + p.sz) (hn : n ≤ c') (ho : 0 < n → o' = p.off + o) (hw : p.rw = true → o' + c' * p.sz ≤ p.tot) :
      VR m (.slice (some ⟨b, o, none⟩) n c) (.slice (some ⟨p.blk, o', none⟩) n c')
  | sliceD (b o : Nat) (A : Addr) : VR m (.slice (some ⟨b, o, none⟩) 0 0) (.slice (some A) 0 0)
  | mapNil : VR m (.map none) (.map none)
  | map {b : Nat} {p : Pin} (h : m b = some p) : VR m (.map (some b)) (.map (some p.blk))
  | nilFunc : VR m .nilFunc .nilFunc
  | func (f : FuncId) (fs gs cs ds : Array Value) (h1 : fs.size = gs.size) (h2 : ∀ (i : Nat) (hi : i < fs.size) (hj : i < gs.size), VR m fs[i] gs[i])
      (h3 : cs.size = ds.size) (h4 : ∀ (i : Nat) (hi : i < cs.size) (hj : i < ds.size), VR m cs[i] ds[i]) : VR m (.func (.func f) fs cs) (.func (.func f) gs ds)
  | yield {l : Nat} {p : Pin} (h : m l = some p) : VR m (.func (.yield l) #[] #[]) (.func (.yield p.blk) #[] #[])
  | nilIface : VR m .nilIface .nilIface
  | iface (t : TypeId) {v v' : Value} (h : VR m v v') : VR m (.iface t v) (.iface t v')
  | agg (cs ds : Array Value) (h3 : cs.size = ds.size) (h4 : ∀ (i : Nat) (hi : i < cs.size) (hj : i < ds.size), VR m cs[i] ds[i]) : VR m (.agg cs) (.agg ds)
  | tuple (cs ds : Array Value) (h3 : cs.size = ds.size) (h4 : ∀ (i : Nat) (hi : i < cs.size) (hj : i < ds.size), VR m cs[i] ds[i]) : VR m (.tuple cs) (.tuple ds)

/-- Lists, value by value. -/
def VRs (m : PM) (xs ys : List Value) : Prop := xs.length = ys.length ∧ ∀ (i : Nat) (hi : i < xs.length) (hj : i < ys.length), VR m xs[i] ys[i]

section
variable {m m' : PM}
theorem VR.mono (hm : PM.le m m') {v v' : Value} (h : VR m v v') : VR m' v v' := by
  induction h with
  | bool b => exact .bool b
  | int k n => exact .int k n
  | float k b => exact .float k b
  | complex k x y => exact .complex k x y
  | string s => exact .string s
  | ptrNil => exact .ptrNil
  | ptr o h => exact .ptr o (hm _ _ h)
  | sliceNil n c => exact .sliceNil n c
  | slice o o' n c h hc hn ho => exact .slice o o' n c (hm _ _ h) hc hn ho
  | sliceL o o' n c c' h hc hn ho hw => exact .sliceL o o' n c c' (hm _ _ h) hc hn ho hw
  | sliceD b o A => exact .sliceD b o A
  | mapNil => exact .mapNil
  | map h => exact .map (hm _ _ h)
  | nilFunc => exact .nilFunc
  | func f fs gs cs ds h1 _ h3 _ i2 i4 => exact .func f fs gs cs ds h1 i2 h3 i4
  | yield h => exact .yield (hm _ _ h)
  | nilIface => exact .nilIface
  | iface t _ ih => exact .iface t ih
  | agg cs ds h3 _ i4 => exact .agg cs ds h3 i4
  | tuple cs ds h3 _ i4 => exact .tuple cs ds h3 i4

theorem VRs.mono (hm : PM.le m m') {xs ys : List Value} (h : VRs m xs ys) : VRs m' xs ys := ⟨h.1, fun i hi hj => (h.2 i hi hj).mono hm⟩
theorem VRs.nil : VRs m [] [] := ⟨rfl, fun _ hi => absurd hi (by simp)⟩
theorem VRs.cons {x y : Value} {xs ys : List Value} (h : VR m x y) (t : VRs m xs ys) : VRs m (x :: xs) (y :: ys) :=
  ⟨by simp [t.1], fun i hi hj => by cases i with
    | zero => exact h
    | succ i => exact t.2 i (by simpa using hi) (by simpa using hj)⟩
theorem VRs.head {x y : Value} {xs ys : List Value} (h : VRs m (x :: xs) (y :: ys)) : VR m x y := h.2 0 (by simp) (by simp)
theorem VRs.tail {x y : Value} {xs ys : List Value} (h : VRs m (x :: xs) (y :: ys)) : VRs m xs ys :=
  ⟨by simpa using h.1, fun i hi hj => h.2 (i + 1) (by simpa using hi) (by simpa using hj)⟩
theorem VRs.get? {xs ys : List Value} (h : VRs m xs ys) {i : Nat} {u : Value} (hu : xs[i]? = some u) : ∃ v, ys[i]? = some v ∧ VR m u v := by
  obtain ⟨hi, rfl⟩ := List.getElem?_eq_some_iff.1 hu
  have hj : i < ys.length := h.1 ▸ hi
  exact ⟨ys[i], List.getElem?_eq_getElem hj, h.2 i hi hj⟩
theorem VRs.of_get? {xs ys : List Value} (hl : xs.length = ys.length) (h : ∀ (i : Nat) (u v : Value), xs[i]? = some u → ys[i]? = some v → VR m u v) : VRs m xs ys :=
  ⟨hl, fun i hi hj => h i _ _ (List.getElem?_eq_getElem hi) (List.getElem?_eq_getElem hj)⟩
theorem VRs.get?' {xs ys : List Value} (h : VRs m xs ys) {i : Nat} {u v : Value} (hu : xs[i]? = some u) (hv : ys[i]? = some v) : VR m u v := by
  obtain ⟨v', hv', hr⟩ := h.get? hu
  rw [hv] at hv'
  injection hv' with e
  subst e
  exact hr
theorem VRs.append {xs ys us vs : List Value} (h : VRs m xs ys) (k : VRs m us vs) : VRs m (xs ++ us) (ys ++ vs) := by
  refine VRs.of_get? (by simp [h.1, k.1]) fun i u v hu hv => ?_
  rcases Nat.lt_or_ge i xs.length with hi | hi
  · rw [List.getElem?_append_left hi] at hu
    rw [List.getElem?_append_left (h.1 ▸ hi)] at hv
    exact h.get?' hu hv
  · rw [List.getElem?_append_right hi] at hu
    rw [List.getElem?_append_right (h.1 ▸ hi), ← h.1] at hv
    exact k.get?' hu hv
theorem VRs.drop {xs ys : List Value} (h : VRs m xs ys) (n : Nat) : VRs m (xs.drop n) (ys.drop n) :=
  VRs.of_get? (by simp [h.1]) fun i u v hu hv => by
    rw [List.getElem?_drop] at hu hv
    exact h.get?' hu hv
theorem VRs.take {xs ys : List Value} (h : VRs m xs ys) (n : Nat) : VRs m (xs.take n) (ys.take n) := by
  refine VRs.of_get? (by simp [h.1]) fun i u v hu hv => ?_
  rcases Nat.lt_or_ge i n with hi | hi
  · rw [List.getElem?_take_of_lt hi] at hu hv
    exact h.get?' hu hv
  · rw [List.getElem?_take_eq_none hi] at hu
    cases hu
theorem VRs.set {xs ys : List Value} (h : VRs m xs ys) (i : Nat) {u v : Value} (hr : VR m u v) : VRs m (xs.set i u) (ys.set i v) := by
  refine VRs.of_get? (by simp [h.1]) fun j a b ha hb => ?_
  rw [List.getElem?_set] at ha hb
  by_cases e : i = j
  · subst e
    simp only [if_true] at ha hb
    split at ha
    · split at hb
      · injection ha with ha
        injection hb with hb
        subst ha; subst hb
        exact hr
      · cases hb
    · cases ha
  · rw [if_neg e] at ha hb
    exact h.get?' ha hb
theorem VRs.getD {xs ys : List Value} (h : VRs m xs ys) (i : Nat) {u v : Value} (hr : VR m u v) : VR m (xs.getD i u) (ys.getD i v) := by
  rw [List.getD_eq_getElem?_getD, List.getD_eq_getElem?_getD]
  rcases Nat.lt_or_ge i xs.length with hi | hi
  · have hj : i < ys.length := h.1 ▸ hi
    rw [List.getElem?_eq_getElem hi, List.getElem?_eq_getElem hj]
    exact h.2 i hi hj
  · rw [List.getElem?_eq_none hi, List.getElem?_eq_none (by rw [← h.1]; exact hi)]
    exact hr
theorem VRs.toArr {cs ds : Array Value} (h3 : cs.size = ds.size) (h4 : ∀ (i : Nat) (hi : i < cs.size) (hj : i < ds.size), VR m cs[i] ds[i]) : VRs m cs.toList ds.toList :=
  ⟨by simpa using h3, fun i hi hj => by simpa using h4 i (by simpa using hi) (by simpa using hj)⟩
theorem VRs.arr {cs ds : Array Value} (h : VRs m cs.toList ds.toList) : ∀ (i : Nat) (hi : i < cs.size) (hj : i < ds.size), VR m cs[i] ds[i] :=
  fun i hi hj => by have := h.2 i (by simpa using hi) (by simpa using hj); simp only [Array.getElem_toList] at this; exact this
theorem VRs.size {cs ds : Array Value} (h : VRs m cs.toList ds.toList) : cs.size = ds.size := by simpa using h.1
theorem VR.aggL {xs ys : List Value} (h : VRs m xs ys) : VR m (.agg xs.toArray) (.agg ys.toArray) := .agg _ _ (by simpa using h.1) (VRs.arr (by simpa using h))
theorem VR.aggA {cs ds : Array Value} (h : VRs m cs.toList ds.toList) : VR m (.agg cs) (.agg ds) := .agg _ _ h.size h.arr
theorem VR.tupA {cs ds : Array Value} (h : VRs m cs.toList ds.toList) : VR m (.tuple cs) (.tuple ds) := .tuple _ _ h.size h.arr
theorem VRs.map {α : Type} {f g : α → Value} {xs : List α} (h : ∀ x ∈ xs, VR m (f x) (g x)) : VRs m (xs.map f) (xs.map g) := by
  induction xs with
  | nil => exact .nil
  | cons x xs ih => exact .cons (h x (by simp)) (ih fun y hy => h y (by simp [hy]))

/-! ### Values without an address -/
theorem VR.closed0_eq {v v' : Value} (h : VR m v v') (hc : closed0 v = true) : v = v' := by
  cases h <;> first | rfl | simp [closed0] at hc
theorem closed0_VR {v : Value} (hc : closed0 v = true) : VR m v v := by
  cases v with
  | bool b => exact .bool b
  | int k n => exact .int k n
  | float k b => exact .float k b
  | complex k x y => exact .complex k x y
  | string s => exact .string s
  | pointer a => cases a with
    | none => exact .ptrNil
    | some a => simp [closed0] at hc
  | slice a n c => cases a with
    | none => exact .sliceNil n c
    | some a => simp [closed0] at hc
  | map a => cases a with
    | none => exact .mapNil
    | some a => simp [closed0] at hc
  | nilFunc => exact .nilFunc
  | nilIface => exact .nilIface
  | _ => simp [closed0] at hc
theorem VRs.eq_of {p : Value → Bool} (hp : ∀ {v v' : Value}, VR m v v' → p v = true → v = v') {xs ys : List Value} (h : VRs m xs ys) (hc : xs.all p = true) : xs = ys := by
  refine List.ext_getElem? fun i => ?_
  cases hx : xs[i]? with
  | none =>
    have : xs.length ≤ i := List.getElem?_eq_none_iff.1 hx
    rw [List.getElem?_eq_none (by rw [← h.1]; exact this)]
  | some u =>
    obtain ⟨v, hv, hr⟩ := h.get? hx
    rw [hv, hp hr (List.all_eq_true.1 hc u (List.mem_of_getElem? hx))]
theorem VRs.self {p : Value → Bool} (hp : ∀ {v : Value}, p v = true → VR m v v) {xs : List Value} (hc : xs.all p = true) : VRs m xs xs :=
  VRs.of_get? rfl fun i u v hu hv => by
    rw [hu] at hv
    injection hv with e
    subst e
    exact hp (List.all_eq_true.1 hc u (List.mem_of_getElem? hu))
theorem VR.closed1_eq {v v' : Value} (h : VR m v v') (hc : closed1 v = true) : v = v' := by
  cases h with
  | agg cs ds h3 h4 =>
    have := VRs.eq_of (p := closed0) (fun h hc => h.closed0_eq hc) (VRs.toArr h3 h4) (by simpa [closed1] using hc)
    rw [Array.toList_inj.1 this]
  | iface t h => rw [h.closed0_eq (by simpa [closed1] using hc)]
  | bool b => rfl
  | int k n => rfl
  | float k b => rfl
  | complex k x y => rfl
  | string s => rfl
  | ptrNil => rfl
  | sliceNil n c => rfl
  | mapNil => rfl
  | nilFunc => rfl
  | nilIface => rfl
  | _ => simp [closed1, closed0] at hc
theorem closed1_VR {v : Value} (hc : closed1 v = true) : VR m v v := by
  cases v with
  | agg cs => exact .aggA (VRs.self (p := closed0) (fun h => closed0_VR h) (by simpa [closed1] using hc))
  | iface t v => exact .iface t (closed0_VR (by simpa [closed1] using hc))
  | _ => exact closed0_VR (by simpa [closed1] using hc)
theorem VR.closed_eq {v v' : Value} (h : VR m v v') (hc : closed v = true) : v = v' := by
  cases h with
  | agg cs ds h3 h4 =>
    have := VRs.eq_of (p := closed0) (fun h hc => h.closed0_eq hc) (VRs.toArr h3 h4) (by simpa [closed] using hc)
    rw [Array.toList_inj.1 this]
  | tuple cs ds h3 h4 =>
    have := VRs.eq_of (p := closed1) (fun h hc => h.closed1_eq hc) (VRs.toArr h3 h4) (by simpa [closed] using hc)
    rw [Array.toList_inj.1 this]
  | iface t h => rw [h.closed0_eq (by simpa [closed] using hc)]
  | bool b => rfl
  | int k n => rfl
  | float k b => rfl
  | complex k x y => rfl
  | string s => rfl
  | ptrNil => rfl
  | sliceNil n c => rfl
  | mapNil => rfl
  | nilFunc => rfl
  | nilIface => rfl
  | _ => simp [closed, closed0] at hc
theorem closed_VR {v : Value} (hc : closed v = true) : VR m v v := by
  cases v with
  | agg cs => exact .aggA (VRs.self (p := closed0) (fun h => closed0_VR h) (by simpa [closed] using hc))
  | tuple cs => exact .tupA (VRs.self (p := closed1) (fun h => closed1_VR h) (by simpa [closed] using hc))
  | iface t v => exact .iface t (closed0_VR (by simpa [closed] using hc))
  | _ => exact closed0_VR (by simpa [closed] using hc)
theorem VR.undef : VR m Go.undef Go.undef := .tuple #[] #[] rfl (fun i hi => absurd hi (by simp))
theorem VR.oneC_eq {v v' : Value} (h : VR m v v') : oneC v' = oneC v := by cases h <;> rfl
theorem VR.cells {v v' : Value} (h : VR m v v') : VRs m v.cells.toList v'.cells.toList := by
  cases h with
  | agg cs ds h3 h4 => exact VRs.toArr h3 h4
  | bool b => exact .cons (.bool b) .nil
  | int k n => exact .cons (.int k n) .nil
  | float k b => exact .cons (.float k b) .nil
  | complex k x y => exact .cons (.complex k x y) .nil
  | string s => exact .cons (.string s) .nil
  | ptrNil => exact .cons .ptrNil .nil
  | ptr o h => exact .cons (.ptr o h) .nil
  | sliceNil n c => exact .cons (.sliceNil n c) .nil
  | slice o o' n c h hc hn ho => exact .cons (.slice o o' n c h hc hn ho) .nil
  | sliceL o o' n c c' h hc hn ho hw => exact .cons (.sliceL o o' n c c' h hc hn ho hw) .nil
  | sliceD b o A => exact .cons (.sliceD b o A) .nil
  | mapNil => exact .cons .mapNil .nil
  | map h => exact .cons (.map h) .nil
  | nilFunc => exact .cons .nilFunc .nil
  | func f fs gs cs ds h1 h2 h3 h4 => exact .cons (.func f fs gs cs ds h1 h2 h3 h4) .nil
  | yield h => exact .cons (.yield h) .nil
  | nilIface => exact .cons .nilIface .nil
  | iface t h => exact .cons (.iface t h) .nil
  | tuple cs ds h3 h4 => exact .cons (.tuple cs ds h3 h4) .nil
end

/-! ### The ghost heap -/
section
variable {H : GH} {b : Nat} {o o' : GObj}
theorem GH.get_lt (h : H.get b = some o) : b < H.n := by
  unfold GH.get at h
  split at h
  · assumption
  · cases h
theorem GH.get_push_new : (H.push o).get H.n = some o := by simp [GH.get, GH.push]
theorem GH.get_push_old (hb : b < H.n) : (H.push o).get b = H.get b := by
  unfold GH.get GH.push
  simp only
  rw [if_pos (by omega), if_pos hb]
  have e : H.n + 1 - 1 - b = (H.n - 1 - b) + 1 := by omega
  rw [e, List.getElem?_cons_succ]
theorem GH.get_push_ge (hb : H.n < b) : (H.push o).get b = none := by
  unfold GH.get GH.push
  simp only
  rw [if_neg (by omega)]
theorem GH.push_n : (H.push o).n = H.n + 1 := rfl
theorem GH.push_lo : (H.push o).lo = H.lo := rfl
theorem GH.set_n : (H.set b o).n = H.n := rfl
theorem GH.set_lo : (H.set b o).lo = min H.lo b := rfl
theorem GH.get_set_same (h : H.get b = some o') : (H.set b o).get b = some o := by
  have hb := GH.get_lt h
  unfold GH.get at h ⊢
  unfold GH.set
  simp only
  rw [if_pos hb] at h ⊢
  rw [List.getElem?_set_self (List.getElem?_eq_some_iff.1 h).1]
theorem GH.get_set_other {c : Nat} (hne : b ≠ c) (hb : b < H.n) : (H.set b o).get c = H.get c := by
  unfold GH.get GH.set
  simp only
  by_cases hc : c < H.n
  · rw [if_pos hc, if_pos hc, List.getElem?_set_ne (by omega)]
  · rw [if_neg hc, if_neg hc]
end

/-! ### A ghost object and the real one -/
def EntR (m : PM) (x y : MapEntry) : Prop := y.key = x.key ∧ closed x.key = true ∧ y.born = x.born ∧ VR m x.val y.val
def optR (m : PM) : Option Nat → Option Nat → Prop
  | none, none => True
  | some b, some B => ∃ p, m b = some p ∧ B = p.blk
  | _, _ => False

inductive ObjR (P : Program) (m : PM) (base : Nat) (p : Pin) : GObj → Obj → Prop
  | row {cells : List Value} {e t : TypeId} {ro : Bool} {arr : Array Value} {fr : Nat × Nat} (hro : p.rw = !ro) (hold : ro = true → p.blk < base)
      (hrw : ro = false → t = e ∧ fr = (0, 0) ∧ arr.size = p.tot ∧ gSize P e = some p.sz ∧ base ≤ p.blk)
      (hc : ∀ (i : Nat) (u : Value), cells[i]? = some u → ∃ u', arr[p.off + i]? = some u' ∧ VR m u u') : ObjR P m base p (.row cells e ro) (.cells arr t fr)
  | map {es : List MapEntry} {es' : Array MapEntry} {clock : Nat} (hb : base ≤ p.blk) (hl : es.length = es'.size)
      (he : ∀ (i : Nat) (x y : MapEntry), es[i]? = some x → es'[i]? = some y → EntR m x y) : ObjR P m base p (.map es clock) (.map es' clock)
  | mapIter {mo mo' : Option Nat} {since : Nat} {seen : List Nat} {seen' : Array Nat} {st : Nat} (h0 : p.off = 0) (hb : base ≤ p.blk) (hs : seen'.toList = seen) (hm : optR m mo mo') :
      ObjR P m base p (.mapIter mo since seen st) (.mapIter mo' since seen' st)
  | strIter {s : ByteArray} {pos : Nat} (h0 : p.off = 0) (hb : base ≤ p.blk) : ObjR P m base p (.strIter s pos) (.stringIter s pos)
  | loop {st : LoopState} {pe : Option Code} {tmps : List Value} {ps : List Tmp} {as bd : Code} {r : Loop} (hb : base ≤ p.blk) (h1 : r.state = st) (h2 : r.pending = pe)
      (h3 : r.params.toList = ps) (h4 : r.assign = as) (h5 : r.body = bd) (h6 : codeOk as = true) (h7 : codeOk bd = true) (h8 : VRs m tmps r.tmps.toList) :
      ObjR P m base p (.loop st pe tmps ps as bd) (.loop r)
  | dead {o : Obj} : ObjR P m base p .dead o

theorem ObjR.mono {P : Program} {m m' : PM} {base : Nat} {p : Pin} {o : GObj} {r : Obj} (hm : PM.le m m') (h : ObjR P m base p o r) : ObjR P m' base p o r := by
  cases h with
  | row hro hold hrw hc => exact .row hro hold hrw fun i u hu => by obtain ⟨u', h1, h2⟩ := hc i u hu; exact ⟨u', h1, h2.mono hm⟩
  | map hb hl he => exact .map hb hl fun i x y hx hy => by obtain ⟨h1, h2, h3, h4⟩ := he i x y hx hy; exact ⟨h1, h2, h3, h4.mono hm⟩
  | mapIter h0 hb hs ho =>
    refine .mapIter h0 hb hs ?_
    rename_i mo mo' _ _ _ _
    cases mo <;> cases mo' <;> first | exact ho | (obtain ⟨p, h1, h2⟩ := ho; exact ⟨p, hm _ _ h1, h2⟩)
  | strIter h0 hb => exact .strIter h0 hb
  | loop hb h1 h2 h3 h4 h5 h6 h7 h8 => exact .loop hb h1 h2 h3 h4 h5 h6 h7 (h8.mono hm)
  | dead => exact .dead

/-- May the block's real one be asked for by this ghost block alone? -/
def alive : Option GObj → Bool
  | some (.row _ _ true) | some .dead | none => false
  | _ => true

/-- A ghost heap stands for a part of the world. -/
structure Rel (P : Program) (base : Nat) (m : PM) (H : GH) (w : World) : Prop where
  obj : ∀ b p, m b = some p → ∃ o r, H.get b = some o ∧ w.heap[p.blk]? = some r ∧ ObjR P m base p o r
  inj : ∀ b c p q, b ≠ c → m b = some p → m c = some q → alive (H.get b) = true → alive (H.get c) = true → p.blk ≠ q.blk

/-- What was a loop's record or a block of deferred calls is one still. -/
structure Keep (w w' : World) : Prop where
  size : w.heap.size ≤ w'.heap.size
  loop : ∀ (L : Nat) (r : Loop), w.heap[L]? = some (.loop r) → ∃ r' : Loop, w'.heap[L]? = some (.loop r')
  defs : ∀ (D : Nat) (ds : Option (List Deferred)), w.heap[D]? = some (.deferred ds) → w'.heap[D]? = some (.deferred ds)
theorem Keep.refl (w : World) : Keep w w := ⟨Nat.le_refl _, fun _ r h => ⟨r, h⟩, fun _ _ h => h⟩
theorem Keep.trans {a b c : World} (h : Keep a b) (k : Keep b c) : Keep a c :=
  ⟨Nat.le_trans h.size k.size, fun L r hr => by obtain ⟨r', h'⟩ := h.loop L r hr; exact k.loop L r' h', fun D ds hd => k.defs D ds (h.defs D ds hd)⟩

/-- A step: the ghost heap and the world go on together. -/
structure Go1 (base : Nat) (m m' : PM) (H H' : GH) (w w' : World) : Prop where
  le : PM.le m m'
  newId : ∀ b p, m' b = some p → m b = none → H.n ≤ b
  fresh : ∀ b p, m' b = some p → m b = none → w.heap.size ≤ p.blk ∨ ∃ c q, m c = some q ∧ q.blk = p.blk ∧ H'.lo ≤ c
  frame : ∀ B, B < w.heap.size → (∀ b p, m b = some p → p.blk = B → b < H'.lo) → w'.heap[B]? = w.heap[B]?
  below : Below base w w'
  keep : Keep w w'
  n : H.n ≤ H'.n
  lo : H'.lo ≤ H.lo
  same : ∀ b, b < H.n → b < H'.lo → H'.get b = H.get b

theorem Go1.refl (base : Nat) (m : PM) (H : GH) (w : World) : Go1 base m m H H w w :=
  ⟨.refl m, fun b p h h' => (by rw [h] at h'; cases h'), fun b p h h' => (by rw [h] at h'; cases h'), fun _ _ _ => rfl, .refl _ _, .refl _, Nat.le_refl _, Nat.le_refl _, fun _ _ _ => rfl⟩

theorem Go1.trans {base : Nat} {m0 m1 m2 : PM} {H0 H1 H2 : GH} {w0 w1 w2 : World} (h : Go1 base m0 m1 H0 H1 w0 w1) (k : Go1 base m1 m2 H1 H2 w1 w2) : Go1 base m0 m2 H0 H2 w0 w2 where
  le := h.le.trans k.le
  newId b p hb h0 := by
    cases h1 : m1 b with
    | none => exact Nat.le_trans h.n (k.newId b p hb h1)
    | some q => exact h.newId b q h1 h0
  fresh b p hb h0 := by
    cases h1 : m1 b with
    | some q =>
      have e : q = p := by have := k.le b q h1; rw [hb] at this; injection this with e; exact e.symm
      subst e
      rcases h.fresh b q h1 h0 with hs | ⟨c, r, hc, hr, hl⟩
      · exact .inl hs
      · exact .inr ⟨c, r, hc, hr, Nat.le_trans k.lo hl⟩
    | none =>
      rcases k.fresh b p hb h1 with hs | ⟨c, r, hc, hr, hl⟩
      · exact .inl (Nat.le_trans h.keep.size hs)
      · cases hc0 : m0 c with
        | some r0 =>
          have e : r0 = r := by have := h.le c r0 hc0; rw [hc] at this; injection this with e; exact e.symm
          subst e
          exact .inr ⟨c, r0, hc0, hr, hl⟩
        | none =>
          rcases h.fresh c r hc hc0 with hs | ⟨d, s, hd, hs, hl'⟩
          · exact .inl (hr ▸ hs)
          · exact .inr ⟨d, s, hd, hs.trans hr, Nat.le_trans k.lo hl'⟩
  frame B hB hf := by
    have e1 := h.frame B hB fun b p hb hp => Nat.lt_of_lt_of_le (hf b p hb hp) k.lo
    refine (k.frame B (Nat.lt_of_lt_of_le hB h.keep.size) fun b p hb hp => ?_).trans e1
    cases h0 : m0 b with
    | some q =>
      have e : q = p := by have := h.le b q h0; rw [hb] at this; injection this with e; exact e.symm
      subst e
      exact hf b q h0 hp
    | none =>
      rcases h.fresh b p hb h0 with hs | ⟨c, r, hc, hr, hl⟩
      · omega
      · have := hf c r hc (hr.trans hp)
        have := k.lo
        omega
  below := h.below.trans k.below
  keep := h.keep.trans k.keep
  n := Nat.le_trans h.n k.n
  lo := Nat.le_trans k.lo h.lo
  same b hb hl := (k.same b (Nat.lt_of_lt_of_le hb h.n) hl).trans (h.same b hb (Nat.lt_of_lt_of_le hl k.lo))

/-- A draw turns nothing. -/
theorem Rel.drew {P : Program} {base : Nat} {m : PM} {H : GH} {w w' : World} (h : Rel P base m H w) (e : w'.heap = w.heap) : Rel P base m H w' :=
  ⟨fun b p hb => by rw [e]; exact h.obj b p hb, h.inj⟩
theorem Go1.drew {base : Nat} {m : PM} {H : GH} {w w' : World} (e : w'.heap = w.heap) (h1 : w'.os = w.os) (h2 : w'.tape = w.tape) (h3 : w'.output = w.output) : Go1 base m m H H w w' :=
  ⟨.refl m, fun b p h h' => (by rw [h] at h'; cases h'), fun b p h h' => (by rw [h] at h'; cases h'), fun _ _ _ => by rw [e], ⟨h1, h2, h3, by rw [e]; exact Nat.le_refl _, fun k _ => by rw [e]⟩,
    ⟨by rw [e]; exact Nat.le_refl _, fun _ r h => ⟨r, by rw [e]; exact h⟩, fun _ _ h => by rw [e]; exact h⟩, Nat.le_refl _, Nat.le_refl _, fun _ _ _ => rfl⟩

section
variable {P : Program} {base : Nat} {m : PM} {H : GH} {w : World}
theorem Rel.blk_lt (h : Rel P base m H w) {b : Nat} {p : Pin} (hb : m b = some p) : p.blk < w.heap.size := by
  obtain ⟨_, r, _, hr, _⟩ := h.obj b p hb
  exact (Array.getElem?_eq_some_iff.1 hr).1
theorem Rel.id_lt (h : Rel P base m H w) {b : Nat} {p : Pin} (hb : m b = some p) : b < H.n := by
  obtain ⟨o, _, ho, _⟩ := h.obj b p hb
  exact GH.get_lt ho
theorem Rel.lo (h : Rel P base m H w) (l : Nat) : Rel P base m { H with lo := l } w := ⟨h.obj, h.inj⟩

/-- A new ghost block over a new real one. -/
def PM.put (m : PM) (b : Nat) (p : Pin) : PM := fun c => if c = b then some p else m c
theorem PM.put_same (m : PM) (b : Nat) (p : Pin) : m.put b p b = some p := by simp [PM.put]
theorem PM.put_other (m : PM) {b c : Nat} (p : Pin) (h : c ≠ b) : m.put b p c = m c := by simp [PM.put, h]
theorem Rel.put_le (h : Rel P base m H w) (p : Pin) : PM.le m (m.put H.n p) := fun b q hb => by
  rw [PM.put_other m p (by have := h.id_lt hb; omega)]; exact hb

theorem World.alloc_size (w : World) (o : Obj) : (w.alloc o).heap.size = w.heap.size + 1 := by simp
theorem heap_alloc_at (w : World) (o : Obj) : (w.alloc o).heap[w.heap.size]? = some o := by
  show (w.heap.push o)[w.heap.size]? = _
  simp

theorem Rel.new (h : Rel P base m H w) (hbase : base ≤ w.heap.size) (o : GObj) (r : Obj) (p : Pin) (hp : p.blk = w.heap.size) (ho : ObjR P (m.put H.n p) base p o r) :
    Rel P base (m.put H.n p) (H.push o) (w.alloc r) ∧ Go1 base m (m.put H.n p) H (H.push o) w (w.alloc r) := by
  have hle := h.put_le p
  refine ⟨⟨fun b q hb => ?_, fun b c q s hne hb hc ab ac => ?_⟩, ⟨hle, fun b q hb h0 => ?_, fun b q hb h0 => ?_, fun B hB _ => ?_, ?_, ?_, ?_, ?_, fun b hb _ => ?_⟩⟩
  · by_cases e : b = H.n
    · subst e
      rw [PM.put_same] at hb
      injection hb with hb
      subst hb
      exact ⟨o, r, GH.get_push_new, by rw [hp]; exact heap_alloc_at w r, ho⟩
    · rw [PM.put_other m p e] at hb
      obtain ⟨o', r', h1, h2, h3⟩ := h.obj b q hb
      exact ⟨o', r', (GH.get_push_old (GH.get_lt h1)).trans h1, (Below.heap_alloc w r q.blk (h.blk_lt hb)).trans h2, h3.mono hle⟩
  · by_cases eb : b = H.n
    · subst eb
      rw [PM.put_same] at hb
      injection hb with hb
      subst hb
      rw [PM.put_other m p (Ne.symm hne)] at hc
      have := h.blk_lt hc
      omega
    · rw [PM.put_other m p eb] at hb
      by_cases ec : c = H.n
      · subst ec
        rw [PM.put_same] at hc
        injection hc with hc
        subst hc
        have := h.blk_lt hb
        omega
      · rw [PM.put_other m p ec] at hc
        rw [GH.get_push_old (h.id_lt hb)] at ab
        rw [GH.get_push_old (h.id_lt hc)] at ac
        exact h.inj b c q s hne hb hc ab ac
  · by_cases e : b = H.n
    · omega
    · rw [PM.put_other m p e, h0] at hb; cases hb
  · by_cases e : b = H.n
    · subst e
      rw [PM.put_same] at hb
      injection hb with hb
      subst hb
      exact .inl (by omega)
    · rw [PM.put_other m p e, h0] at hb; cases hb
  · exact Below.heap_alloc w r B hB
  · exact (Below.refl base w).alloc hbase r
  · refine ⟨by simp, fun L q hL => ⟨q, ?_⟩, fun D ds hD => ?_⟩
    · exact (Below.heap_alloc w r L (Array.getElem?_eq_some_iff.1 hL).1).trans hL
    · exact (Below.heap_alloc w r D (Array.getElem?_eq_some_iff.1 hD).1).trans hD
  · rw [GH.push_n]; omega
  · exact Nat.le_refl _
  · exact GH.get_push_old hb

/-- A real block turned, and the ghost block that stands for it. -/
theorem Rel.turn (h : Rel P base m H w) {b : Nat} {p : Pin} (hb : m b = some p) {o : GObj} {w' : World} {r : Obj}
    (hal : alive (H.get b) = true) (hbk : base ≤ p.blk) (hh : w'.heap = w.heap.setIfInBounds p.blk r) (h1 : w'.os = w.os) (h2 : w'.tape = w.tape) (h3 : w'.output = w.output)
    (ho : ObjR P m base p o r) (hloop : ∀ q, w.heap[p.blk]? = some (.loop q) → ∃ q', r = .loop q') (hdef : ∀ ds, w.heap[p.blk]? ≠ some (.deferred ds))
    (hro : ∀ c q, m c = some q → q.blk = p.blk → c ≠ b → H.get c = some .dead) :
    Rel P base m (H.set b o) w' ∧ Go1 base m m H (H.set b o) w w' := by
  have hlt := h.blk_lt hb
  have hbn := h.id_lt hb
  obtain ⟨ob, _, hob, _, _⟩ := h.obj b p hb
  have hsame : w'.heap[p.blk]? = some r := by rw [hh]; simp [Array.getElem?_setIfInBounds, hlt]
  have hother : ∀ B, B ≠ p.blk → w'.heap[B]? = w.heap[B]? := fun B hB => by rw [hh, Array.getElem?_setIfInBounds, if_neg (Ne.symm hB)]
  have hsz : w'.heap.size = w.heap.size := by rw [hh]; simp
  refine ⟨⟨fun c q hc => ?_, fun c d q s hne hc hd ac ad => ?_⟩, ⟨.refl m, fun c q hc h0 => (by rw [hc] at h0; cases h0), fun c q hc h0 => (by rw [hc] at h0; cases h0), fun B hB hf => ?_, ?_, ?_, Nat.le_refl _, ?_, fun c hc hl => ?_⟩⟩
  · by_cases e : c = b
    · subst e
      rw [hb] at hc
      injection hc with hc
      subst hc
      exact ⟨o, r, GH.get_set_same hob, hsame, ho⟩
    · obtain ⟨o', r', g1, g2, g3⟩ := h.obj c q hc
      by_cases eb : q.blk = p.blk
      · have hdead := hro c q hc eb e
        rw [g1] at hdead
        injection hdead with hdead
        subst hdead
        exact ⟨.dead, r, (GH.get_set_other (Ne.symm e) hbn).trans g1, by rw [eb]; exact hsame, .dead⟩
      · exact ⟨o', r', (GH.get_set_other (Ne.symm e) hbn).trans g1, (hother _ eb).trans g2, g3⟩
  · by_cases ec : c = b
    · subst ec
      rw [GH.get_set_other hne hbn] at ad
      exact h.inj c d q s hne hc hd hal ad
    · rw [GH.get_set_other (Ne.symm ec) hbn] at ac
      by_cases ed : d = b
      · subst ed
        exact h.inj c d q s hne hc hd ac hal
      · rw [GH.get_set_other (Ne.symm ed) hbn] at ad
        exact h.inj c d q s hne hc hd ac ad
  · refine hother B fun e => ?_
    have := hf b p hb e.symm
    rw [GH.set_lo] at this
    omega
  · exact ⟨h1, h2, h3, by rw [hsz]; exact Nat.le_refl _, fun k hk => hother k (by omega)⟩
  · refine ⟨by rw [hsz]; exact Nat.le_refl _, fun L q hL => ?_, fun D ds hD => ?_⟩
    · by_cases e : L = p.blk
      · subst e
        obtain ⟨q', hq⟩ := hloop q hL
        exact ⟨q', by rw [hsame, hq]⟩
      · exact ⟨q, (hother L e).trans hL⟩
    · by_cases e : D = p.blk
      · subst e
        exact absurd hD (hdef ds)
      · exact (hother D e).trans hD
  · rw [GH.set_lo]; omega
  · rw [GH.set_lo] at hl
    exact GH.get_set_other (by omega) hbn

/-- A new ghost block over a real one for which no live one stands. -/
theorem Rel.adopt (h : Rel P base m H w) (o : GObj) (r : Obj) (p : Pin) (hr : w.heap[p.blk]? = some r) (ho : ObjR P (m.put H.n p) base p o r)
    (hd : ∀ c q, m c = some q → q.blk = p.blk → alive (H.get c) = false) (hf : ∃ c q, m c = some q ∧ q.blk = p.blk ∧ H.lo ≤ c) :
    Rel P base (m.put H.n p) (H.push o) w ∧ Go1 base m (m.put H.n p) H (H.push o) w w := by
  have hle := h.put_le p
  refine ⟨⟨fun b q hb => ?_, fun b c q s hne hb hc ab ac => ?_⟩, ⟨hle, fun b q hb h0 => ?_, fun b q hb h0 => ?_, fun B hB _ => rfl, .refl _ _, .refl _, ?_, ?_, fun b hb _ => ?_⟩⟩
  · by_cases e : b = H.n
    · subst e
      rw [PM.put_same] at hb
      injection hb with hb
      subst hb
      exact ⟨o, r, GH.get_push_new, hr, ho⟩
    · rw [PM.put_other m p e] at hb
      obtain ⟨o', r', h1, h2, h3⟩ := h.obj b q hb
      exact ⟨o', r', (GH.get_push_old (GH.get_lt h1)).trans h1, h2, h3.mono hle⟩
  · by_cases eb : b = H.n
    · subst eb
      rw [PM.put_same] at hb
      injection hb with hb
      subst hb
      rw [PM.put_other m p (Ne.symm hne)] at hc
      rw [GH.get_push_old (h.id_lt hc)] at ac
      intro e
      rw [hd c s hc e.symm] at ac
      cases ac
    · rw [PM.put_other m p eb] at hb
      rw [GH.get_push_old (h.id_lt hb)] at ab
      by_cases ec : c = H.n
      · subst ec
        rw [PM.put_same] at hc
        injection hc with hc
        subst hc
        intro e
        rw [hd b q hb e] at ab
        cases ab
      · rw [PM.put_other m p ec] at hc
        rw [GH.get_push_old (h.id_lt hc)] at ac
        exact h.inj b c q s hne hb hc ab ac
  · by_cases e : b = H.n
    · omega
    · rw [PM.put_other m p e, h0] at hb; cases hb
  · by_cases e : b = H.n
    · subst e
      rw [PM.put_same] at hb
      injection hb with hb
      subst hb
      exact .inr hf
    · rw [PM.put_other m p e, h0] at hb; cases hb
  · rw [GH.push_n]; omega
  · exact Nat.le_refl _
  · exact GH.get_push_old hb

/-- Of a live block: what else is pinned to its real block is dead. -/
theorem Rel.alone (h : Rel P base m H w) {b : Nat} {p : Pin} (hb : m b = some p) (hal : alive (H.get b) = true) (hbk : base ≤ p.blk) :
    ∀ c q, m c = some q → q.blk = p.blk → c ≠ b → H.get c = some .dead := fun c q hc hq hne => by
  cases hg : alive (H.get c) with
  | true => exact absurd hq (h.inj c b q p hne hc hb hg hal)
  | false =>
    obtain ⟨o, _, ho, _, hr⟩ := h.obj c q hc
    rw [ho] at hg ⊢
    cases o with
    | row cs e ro =>
      cases ro with
      | true =>
        cases hr with
        | row _ hold _ _ => have := hold rfl; omega
      | false => simp [alive] at hg
    | dead => rfl
    | _ => simp [alive] at hg
end
end Go.Gh
