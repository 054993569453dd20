/- The ghost machine: maps and iterators. -/
import Derived.Test.YthicilkmjamefaaGdMemC
namespace Go.Gh
open Go.RowKit
set_option linter.unusedVariables false
set_option linter.unusedSimpArgs false

/-- Entries, one by one. -/
inductive EntRs (m : PM) : List MapEntry → List MapEntry → Prop
  | nil : EntRs m [] []
  | cons {x y : MapEntry} {xs ys : List MapEntry} (h : EntR m x y) (t : EntRs m xs ys) : EntRs m (x :: xs) (y :: ys)
section
variable {P : Program} {base : Nat} {m : PM} {H : GH} {w : World}

theorem EntRs.of {xs ys : List MapEntry} (hl : xs.length = ys.length) (h : ∀ (i : Nat) (x y : MapEntry), xs[i]? = some x → ys[i]? = some y → EntR m x y) : EntRs m xs ys := by
  induction xs generalizing ys with
  | nil => cases ys with
    | nil => exact .nil
    | cons y ys => simp at hl
  | cons x xs ih => cases ys with
    | nil => simp at hl
    | cons y ys => exact .cons (h 0 x y rfl rfl) (ih (by simpa using hl) fun i a b ha hb => h (i + 1) a b (by simpa using ha) (by simpa using hb))
theorem EntRs.length {xs ys : List MapEntry} (h : EntRs m xs ys) : xs.length = ys.length := by induction h with
  | nil => rfl
  | cons _ _ ih => simp [ih]
theorem EntRs.get {xs ys : List MapEntry} (h : EntRs m xs ys) : ∀ (i : Nat) (x y : MapEntry), xs[i]? = some x → ys[i]? = some y → EntR m x y := by
  induction h with
  | nil => intro i x y hx; simp at hx
  | cons h t ih =>
    intro i a b ha hb
    cases i with
    | zero => simp at ha hb; subst ha; subst hb; exact h
    | succ i => exact ih i a b (by simpa using ha) (by simpa using hb)
theorem EntRs.get? {xs ys : List MapEntry} (h : EntRs m xs ys) {i : Nat} {x : MapEntry} (hx : xs[i]? = some x) : ∃ y, ys[i]? = some y ∧ EntR m x y := by
  have hi : i < ys.length := by rw [← h.length]; exact (List.getElem?_eq_some_iff.1 hx).1
  exact ⟨ys[i], List.getElem?_eq_getElem hi, h.get i x _ hx (List.getElem?_eq_getElem hi)⟩
theorem EntRs.filter {xs ys : List MapEntry} (h : EntRs m xs ys) (p : Nat → Bool) : EntRs m (xs.filter fun e => p e.born) (ys.filter fun e => p e.born) := by
  induction h with
  | nil => exact .nil
  | cons h t ih =>
    rename_i x y xs ys
    rw [List.filter_cons, List.filter_cons, h.2.2.1]
    split
    · exact .cons h ih
    · exact ih
theorem EntRs.append {xs ys us vs : List MapEntry} (h : EntRs m xs ys) (k : EntRs m us vs) : EntRs m (xs ++ us) (ys ++ vs) := by
  induction h with
  | nil => exact k
  | cons h t ih => exact .cons h ih
theorem EntRs.modify {xs ys : List MapEntry} (h : EntRs m xs ys) (i : Nat) (f g : MapEntry → MapEntry) (hf : ∀ x y, EntR m x y → EntR m (f x) (g y)) : EntRs m (xs.modify i f) (ys.modify i g) := by
  induction h generalizing i with
  | nil => simp; exact .nil
  | cons h t ih => cases i with
    | zero => exact .cons (hf _ _ h) t
    | succ i => exact .cons h (ih i)
theorem EntRs.eraseIdx {xs ys : List MapEntry} (h : EntRs m xs ys) (i : Nat) : EntRs m (xs.eraseIdx i) (ys.eraseIdx i) := by
  induction h generalizing i with
  | nil => exact .nil
  | cons h t ih => cases i with
    | zero => exact t
    | succ i => exact .cons h (ih i)
theorem EntRs.mono {m' : PM} (hm : PM.le m m') {xs ys : List MapEntry} (h : EntRs m xs ys) : EntRs m' xs ys := by
  induction h with
  | nil => exact .nil
  | cons h t ih => exact .cons ⟨h.1, h.2.1, h.2.2.1, h.2.2.2.mono hm⟩ ih

/-- A map that is there. -/
theorem gMap_inv {v v' : Value} {r clock : Nat} {es : List MapEntry} (h : gMap v H = some (r, es, clock)) (hv : VR m v v') (hR : Rel P base m H w) :
    ∃ p es', v = .map (some r) ∧ v' = .map (some p.blk) ∧ m r = some p ∧ H.get r = some (.map es clock) ∧ base ≤ p.blk ∧ w.heap[p.blk]? = some (.map es' clock) ∧ EntRs m es es'.toList := by
  unfold gMap at h
  split at h
  case h_2 => cases h
  next r0 =>
  split at h
  case h_2 => cases h
  next es0 clock0 hg =>
  simp only [Option.some.injEq, Prod.mk.injEq] at h
  obtain ⟨rfl, rfl, rfl⟩ := h
  cases hv with
  | map hp =>
    rename_i p
    obtain ⟨o, ob, ho, hob, hr⟩ := hR.obj r0 p hp
    rw [hg] at ho
    injection ho with ho
    subst ho
    cases hr with
    | map hb hl he => exact ⟨p, _, rfl, rfl, hp, hg, hb, hob, EntRs.of (by simpa using hl) fun i x y hx hy => he i x y hx (by simpa using hy)⟩

theorem run_getObj_map {r : Nat} {es : Array MapEntry} {c : Nat} (h : w.heap[r]? = some (.map es c)) : (getObj r).run P w = .ok (.map es c) w := by
  simp [getObj, Sem.run, h]

/-- A map's entries turned. -/
theorem Rel.turnMap (hR : Rel P base m H w) {r clock clock' : Nat} {p : Pin} {es es2 : List MapEntry} {es' es2' : Array MapEntry} (hp : m r = some p) (hg : H.get r = some (.map es clock)) (hb : base ≤ p.blk)
    (hh : w.heap[p.blk]? = some (.map es' clock)) (hE : EntRs m es2 es2'.toList) :
    (setObj p.blk (.map es2' clock')).run P w = .ok () { w with heap := w.heap.setIfInBounds p.blk (.map es2' clock') } ∧
      Rel P base m (H.set r (.map es2 clock')) { w with heap := w.heap.setIfInBounds p.blk (.map es2' clock') } ∧
      Go1 base m m H (H.set r (.map es2 clock')) w { w with heap := w.heap.setIfInBounds p.blk (.map es2' clock') } := by
  refine ⟨by simp [setObj, Sem.run, hh], hR.turn hp (by rw [hg]; rfl) hb rfl rfl rfl rfl (.map hb (by simpa using hE.length) fun i x y hx hy => hE.get i x y hx (by simpa using hy)) (fun q hq => by rw [hh] at hq; cases hq) (fun ds hd => by rw [hh] at hd; cases hd) (hR.alone hp (by rw [hg]; rfl) hb)⟩

theorem gKeyOk_run {kt : TypeId} {k k' : Value} (h : gKeyOk P kt k = true) (hk : VR m k k') : k' = k ∧ closed k = true ∧ Instr.sameBits 10000 k k = true ∧ ∀ b w, (Instr.checkKey b 10000 kt k).run P w = .ok () w := by
  unfold gKeyOk at h
  simp only [Bool.and_eq_true] at h
  obtain ⟨⟨⟨h1, h2⟩, h3⟩, h4⟩ := h
  refine ⟨(hk.closed_eq h1).symm, h1, h4, fun b w => ?_⟩
  cases b with
  | false =>
    obtain ⟨u, hu⟩ := Option.isSome_iff_exists.1 h2
    exact quick_run _ _ hu w
  | true =>
    obtain ⟨u, hu⟩ := Option.isSome_iff_exists.1 h3
    exact quick_run _ _ hu w

theorem sameNow_eq {kt : TypeId} {d : TypeDesc} {k k2 : Value} {b b' : Bool} (hd : P.underlying kt = some d) (h : quick P (Op.equal kt k k2) = some b) (hs : Instr.sameNow d k k2 = some b') : b' = b := by
  have hr := quick_run _ _ h (default : World)
  have hr' : (Op.equalIn (9999 + 1) kt k k2).run P (default : World) = .ok b default := hr
  revert hr'
  generalize 9999 = n
  intro hr'
  unfold Instr.sameNow at hs
  split at hs
  · split at hs
    · next hk =>
      injection hs with hs
      simp [Op.equalIn, run_underlying hd, hk] at hr'
      rw [← hs, ← hr']
    · cases hs
  · injection hs with hs
    simp [Op.equalIn, run_underlying hd] at hr'
    rw [← hs, ← hr']
  · injection hs with hs
    simp [Op.equalIn, run_underlying hd] at hr'
    rw [← hs, ← hr']
  · cases hs

/-- What was found, on the model's side. -/
inductive FoundR (m : PM) (es es' : List MapEntry) (j : Nat) : Option (Nat × MapEntry) → Option (Nat × Value) → Prop
  | no : FoundR m es es' j none none
  | yes {i : Nat} {e e' : MapEntry} (hj : j ≤ i) (h : es[i - j]? = some e) (h' : es'[i - j]? = some e') (hr : EntR m e e') : FoundR m es es' j (some (i, e)) (some (i, e'.val))
theorem FoundR.cons {es es' : List MapEntry} {j : Nat} {x y : MapEntry} {r : Option (Nat × MapEntry)} {r' : Option (Nat × Value)} (h : FoundR m es es' (j + 1) r r') : FoundR m (x :: es) (y :: es') j r r' := by
  cases h with
  | no => exact .no
  | yes hj h h' hr =>
    rename_i i e e'
    have e1 : i - j = (i - (j + 1)) + 1 := by omega
    exact .yes (by omega) (by rw [e1, List.getElem?_cons_succ]; exact h) (by rw [e1, List.getElem?_cons_succ]; exact h') hr

theorem findNow_found {kt : TypeId} {d : TypeDesc} {k : Value} (hd : P.underlying kt = some d) : ∀ {es es' : List MapEntry} (j : Nat) {r : Option (Nat × MapEntry)} {r' : Option (Nat × Value)}, EntRs m es es' →
    gFind P kt k es j = some r → Instr.findNow d k es' j = some r' → FoundR m es es' j r r' := by
  intro es es' j r r' hE
  induction hE generalizing j with
  | nil =>
    intro h h'
    simp only [gFind, Instr.findNow, Option.some.injEq] at h h'
    subst h; subst h'
    exact .no
  | cons hx t ih =>
    rename_i x y xs ys
    intro h h'
    unfold gFind at h
    unfold Instr.findNow at h'
    rw [hx.1] at h'
    cases hq : quick P (Op.equal kt k x.key) with
    | none => rw [hq] at h; cases h
    | some b =>
      rw [hq] at h
      cases hs : Instr.sameNow d k x.key with
      | none => rw [hs] at h'; cases h'
      | some b' =>
        rw [hs] at h'
        have e := sameNow_eq hd hq hs
        subst e
        cases b' with
        | true =>
          simp only [Option.some.injEq] at h h'
          subst h; subst h'
          exact .yes (Nat.le_refl _) (by simp) (by simp) hx
        | false => exact (ih (j + 1) h h').cons

theorem findAsking_found {kt : TypeId} {k : Value} (w : World) : ∀ {es es' : List MapEntry} (j : Nat) {r : Option (Nat × MapEntry)}, EntRs m es es' →
    gFind P kt k es j = some r → ∃ r', (Instr.findAsking kt k es' j).run P w = .ok r' w ∧ FoundR m es es' j r r' := by
  intro es es' j r hE
  induction hE generalizing j with
  | nil =>
    intro h
    simp only [gFind, Option.some.injEq] at h
    subst h
    exact ⟨none, rfl, .no⟩
  | cons hx t ih =>
    rename_i x y xs ys
    intro h
    unfold gFind at h
    cases hq : quick P (Op.equal kt k x.key) with
    | none => rw [hq] at h; cases h
    | some b =>
      rw [hq] at h
      have hrun := quick_run _ _ hq w
      rw [← hx.1] at hrun
      cases b with
      | true =>
        simp only [Option.some.injEq] at h
        subst h
        exact ⟨_, by simp [Instr.findAsking, hrun], .yes (Nat.le_refl _) (by simp) (by simp) hx⟩
      | false =>
        obtain ⟨r', h1, h2⟩ := ih (j + 1) h
        exact ⟨r', by simp [Instr.findAsking, hrun, h1], h2.cons⟩

theorem findKey_found {kt : TypeId} {d : TypeDesc} {k : Value} (hd : P.underlying kt = some d) (w : World) {es es' : List MapEntry} {r : Option (Nat × MapEntry)} (hE : EntRs m es es') (h : gFind P kt k es 0 = some r) :
    ∃ r', (Instr.findKey kt k es').run P w = .ok r' w ∧ FoundR m es es' 0 r r' := by
  cases hn : Instr.findNow d k es' 0 with
  | some r' => exact ⟨r', by simp [Instr.findKey, run_underlying hd, hn], findNow_found hd 0 hE h hn⟩
  | none =>
    obtain ⟨r', h1, h2⟩ := findAsking_found w 0 hE h
    exact ⟨r', by simp [Instr.findKey, run_underlying hd, hn, h1], h2⟩
end
end Go.Gh
