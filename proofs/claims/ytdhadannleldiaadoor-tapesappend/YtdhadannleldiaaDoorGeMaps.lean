/- The ghost machine: maps and iterators. -/
import Derived.Test.YtdhadannleldiaaDoorGdMem
namespace Go.Gh
open Go.RowKit
set_option linter.unusedVariables false
set_option linter.unusedSimpArgs false

/-- Entries, one by one. -/
inductive EntRs (m : PM) : List MapEntry → List MapEntry → Prop
  | nil : EntRs m [] []
  | cons {x y : MapEntry} {xs ys : List MapEntry} (h : EntR m x y) (t : EntRs m xs ys) : EntRs m (x :: xs) (y :: ys)
section
variable {P : Program} {base : Nat} {m : PM} {H : GH} {w : World}

theorem EntRs.of {xs ys : List MapEntry} (hl : xs.length = ys.length) (h : ∀ (i : Nat) (x y : MapEntry), xs[i]? = some x → ys[i]? = some y → EntR m x y) : EntRs m xs ys := by
  induction xs generalizing ys with
  | nil => cases ys with
    | nil => exact .nil
    | cons y ys => simp at hl
  | cons x xs ih => cases ys with
    | nil => simp at hl
    | cons y ys => exact .cons (h 0 x y rfl rfl) (ih (by simpa using hl) fun i a b ha hb => h (i + 1) a b (by simpa using ha) (by simpa using hb))
theorem EntRs.length {xs ys : List MapEntry} (h : EntRs m xs ys) : xs.length = ys.length := by induction h with
  | nil => rfl
  | cons _ _ ih => simp [ih]
theorem EntRs.get {xs ys : List MapEntry} (h : EntRs m xs ys) : ∀ (i : Nat) (x y : MapEntry), xs[i]? = some x → ys[i]? = some y → EntR m x y := by
  induction h with
  | nil => intro i x y hx; simp at hx
  | cons h t ih =>
    intro i a b ha hb
    cases i with
    | zero => simp at ha hb; subst ha; subst hb; exact h
    | succ i => exact ih i a b (by simpa using ha) (by simpa using hb)
theorem EntRs.get? {xs ys : List MapEntry} (h : EntRs m xs ys) {i : Nat} {x : MapEntry} (hx : xs[i]? = some x) : ∃ y, ys[i]? = some y ∧ EntR m x y := by
  have hi : i < ys.length := by rw [← h.length]; exact (List.getElem?_eq_some_iff.1 hx).1
  exact ⟨ys[i], List.getElem?_eq_getElem hi, h.get i x _ hx (List.getElem?_eq_getElem hi)⟩
theorem EntRs.filter {xs ys : List MapEntry} (h : EntRs m xs ys) (p : Nat → Bool) : EntRs m (xs.filter fun e => p e.born) (ys.filter fun e => p e.born) := by
  induction h with
  | nil => exact .nil
  | cons h t ih =>
    rename_i x y xs ys
    rw [List.filter_cons, List.filter_cons, h.2.2.1]
    split
    · exact .cons h ih
    · exact ih
theorem EntRs.append {xs ys us vs : List MapEntry} (h : EntRs m xs ys) (k : EntRs m us vs) : EntRs m (xs ++ us) (ys ++ vs) := by
  induction h with
  | nil => exact k
  | cons h t ih => exact .cons h ih
theorem EntRs.modify {xs ys : List MapEntry} (h : EntRs m xs ys) (i : Nat) (f g : MapEntry → MapEntry) (hf : ∀ x y, EntR m x y → EntR m (f x) (g y)) : EntRs m (xs.modify i f) (ys.modify i g) := by
  induction h generalizing i with
  | nil => simp; exact .nil
  | cons h t ih => cases i with
    | zero => exact .cons (hf _ _ h) t
    | succ i => exact .cons h (ih i)
theorem EntRs.eraseIdx {xs ys : List MapEntry} (h : EntRs m xs ys) (i : Nat) : EntRs m (xs.eraseIdx i) (ys.eraseIdx i) := by
  induction h generalizing i with
  | nil => exact .nil
  | cons h t ih => cases i with
    | zero => exact t
    | succ i => exact .cons h (ih i)
theorem EntRs.mono {m' : PM} (hm : PM.le m m') {xs ys : List MapEntry} (h : EntRs m xs ys) : EntRs m' xs ys := by
  induction h with
  | nil => exact .nil
  | cons h t ih => exact .cons ⟨h.1, h.2.1, h.2.2.1, h.2.2.2.mono hm⟩ ih

/-- A map that is there. -/
theorem gMap_inv {v v' : Value} {r clock : Nat} {es : List MapEntry} (h : gMap v H = some (r, es, clock)) (hv : VR m v v') (hR : Rel P base m H w) :
    ∃ p es', v = .map (some r) ∧ v' = .map (some p.blk) ∧ m r = some p ∧ H.get r = some (.map es clock) ∧ base ≤ p.blk ∧ w.heap[p.blk]? = some (.map es' clock) ∧ EntRs m es es'.toList := by
  unfold gMap at h
  split at h
  case h_2 => cases h
  next r0 =>
  split at h
  case h_2 => cases h
  next es0 clock0 hg =>
  simp only [Option.some.injEq, Prod.mk.injEq] at h
  obtain ⟨rfl, rfl, rfl⟩ := h
  cases hv with
  | map hp =>
    rename_i p
    obtain ⟨o, ob, ho, hob, hr⟩ := hR.obj r0 p hp
    rw [hg] at ho
    injection ho with ho
    subst ho
    cases hr with
    | map hb hl he => exact ⟨p, _, rfl, rfl, hp, hg, hb, hob, EntRs.of (by simpa using hl) fun i x y hx hy => he i x y hx (by simpa using hy)⟩

theorem run_getObj_map {r : Nat} {es : Array MapEntry} {c : Nat} (h : w.heap[r]? = some (.map es c)) : (getObj r).run P w = .ok (.map es c) w := by
  simp [getObj, Sem.run, h]

/-- A map's entries turned. -/
theorem Rel.turnMap (hR : Rel P base m H w) {r clock clock' : Nat} {p : Pin} {es es2 : List MapEntry} {es' es2' : Array MapEntry} (hp : m r = some p) (hg : H.get r = some (.map es clock)) (hb : base ≤ p.blk)
    (hh : w.heap[p.blk]? = some (.map es' clock)) (hE : EntRs m es2 es2'.toList) :
    (setObj p.blk (.map es2' clock')).run P w = .ok () { w with heap := w.heap.setIfInBounds p.blk (.map es2' clock') } ∧
      Rel P base m (H.set r (.map es2 clock')) { w with heap := w.heap.setIfInBounds p.blk (.map es2' clock') } ∧
      Go1 base m m H (H.set r (.map es2 clock')) w { w with heap := w.heap.setIfInBounds p.blk (.map es2' clock') } := by
  refine ⟨by simp [setObj, Sem.run, hh], hR.turn hp (by rw [hg]; rfl) hb rfl rfl rfl rfl (.map hb (by simpa using hE.length) fun i x y hx hy => hE.get i x y hx (by simpa using hy)) (fun q hq => by rw [hh] at hq; cases hq) (fun ds hd => by rw [hh] at hd; cases hd) (hR.alone hp (by rw [hg]; rfl) hb)⟩

theorem gKeyOk_run {kt : TypeId} {k k' : Value} (h : gKeyOk P kt k = true) (hk : VR m k k') : k' = k ∧ closed k = true ∧ Instr.sameBits 10000 k k = true ∧ ∀ b w, (Instr.checkKey b 10000 kt k).run P w = .ok () w := by
  unfold gKeyOk at h
  simp only [Bool.and_eq_true] at h
  obtain ⟨⟨⟨h1, h2⟩, h3⟩, h4⟩ := h
  refine ⟨(hk.closed_eq h1).symm, h1, h4, fun b w => ?_⟩
  cases b with
  | false =>
    obtain ⟨u, hu⟩ := Option.isSome_iff_exists.1 h2
    exact quick_run _ _ hu w
  | true =>
    obtain ⟨u, hu⟩ := Option.isSome_iff_exists.1 h3
    exact quick_run _ _ hu w

theorem sameNow_eq {kt : TypeId} {d : TypeDesc} {k k2 : Value} {b b' : Bool} (hd : P.underlying kt = some d) (h : quick P (Op.equal kt k k2) = some b) (hs : Instr.sameNow d k k2 = some b') : b' = b := by
  have hr := quick_run _ _ h (default : World)
  have hr' : (Op.equalIn (9999 + 1) kt k k2).run P (default : World) = .ok b default := hr
  revert hr'
  generalize 9999 = n
  intro hr'
  unfold Instr.sameNow at hs
  split at hs
  · split at hs
    · next hk =>
      injection hs with hs
      simp [Op.equalIn, run_underlying hd, hk] at hr'
      rw [← hs, ← hr']
    · cases hs
  · injection hs with hs
    simp [Op.equalIn, run_underlying hd] at hr'
    rw [← hs, ← hr']
  · injection hs with hs
    simp [Op.equalIn, run_underlying hd] at hr'
    rw [← hs, ← hr']
  · cases hs

/-- What was found, on the model's side. -/
inductive FoundR (m : PM) (es es' : List MapEntry) (j : Nat) : Option (Nat × MapEntry) → Option (Nat × Value) → Prop
  | no : FoundR m es es' j none none
  | yes {i : Nat} {e e' : MapEntry} (hj : j ≤ i) (h : es[i - j]? = some e) (h' : es'[i - j]? = some e') (hr : EntR m e e') : FoundR m es es' j (some (i, e)) (some (i, e'.val))
theorem FoundR.cons {es es' : List MapEntry} {j : Nat} {x y : MapEntry} {r : Option (Nat × MapEntry)} {r' : Option (Nat × Value)} (h : FoundR m es es' (j + 1) r r') : FoundR m (x :: es) (y :: es') j r r' := by
  cases h with
  | no => exact .no
  | yes hj h h' hr =>
    rename_i i e e'
    have e1 : i - j = (i - (j + 1)) + 1 := by omega
    exact .yes (by omega) (by rw [e1, List.getElem?_cons_succ]; exact h) (by rw [e1, List.getElem?_cons_succ]; exact h') hr

theorem findNow_found {kt : TypeId} {d : TypeDesc} {k : Value} (hd : P.underlying kt = some d) : ∀ {es es' : List MapEntry} (j : Nat) {r : Option (Nat × MapEntry)} {r' : Option (Nat × Value)}, EntRs m es es' →
    gFind P kt k es j = some r → Instr.findNow d k es' j = some r' → FoundR m es es' j r r' := by
  intro es es' j r r' hE
  induction hE generalizing j with
  | nil =>
    intro h h'
    simp only [gFind, Instr.findNow, Option.some.injEq] at h h'
    subst h; subst h'
    exact .no
  | cons hx t ih =>
    rename_i x y xs ys
    intro h h'
    unfold gFind at h
    unfold Instr.findNow at h'
    rw [hx.1] at h'
    cases hq : quick P (Op.equal kt k x.key) with
    | none => rw [hq] at h; cases h
    | some b =>
      rw [hq] at h
      cases hs : Instr.sameNow d k x.key with
      | none => rw [hs] at h'; cases h'
      | some b' =>
        rw [hs] at h'
        have e := sameNow_eq hd hq hs
        subst e
        cases b' with
        | true =>
          simp only [Option.some.injEq] at h h'
          subst h; subst h'
          exact .yes (Nat.le_refl _) (by simp) (by simp) hx
        | false => exact (ih (j + 1) h h').cons

theorem findAsking_found {kt : TypeId} {k : Value} (w : World) : ∀ {es es' : List MapEntry} (j : Nat) {r : Option (Nat × MapEntry)}, EntRs m es es' →
    gFind P kt k es j = some r → ∃ r', (Instr.findAsking kt k es' j).run P w = .ok r' w ∧ FoundR m es es' j r r' := by
  intro es es' j r hE
  induction hE generalizing j with
  | nil =>
    intro h
    simp only [gFind, Option.some.injEq] at h
    subst h
    exact ⟨none, rfl, .no⟩
  | cons hx t ih =>
    rename_i x y xs ys
    intro h
    unfold gFind at h
    cases hq : quick P (Op.equal kt k x.key) with
    | none => rw [hq] at h; cases h
    | some b =>
      rw [hq] at h
      have hrun := quick_run _ _ hq w
      rw [← hx.1] at hrun
      cases b with
      | true =>
        simp only [Option.some.injEq] at h
        subst h
        exact ⟨_, by simp [Instr.findAsking, hrun], .yes (Nat.le_refl _) (by simp) (by simp) hx⟩
      | false =>
        obtain ⟨r', h1, h2⟩ := ih (j + 1) h
        exact ⟨r', by simp [Instr.findAsking, hrun, h1], h2.cons⟩

theorem findKey_found {kt : TypeId} {d : TypeDesc} {k : Value} (hd : P.underlying kt = some d) (w : World) {es es' : List MapEntry} {r : Option (Nat × MapEntry)} (hE : EntRs m es es') (h : gFind P kt k es 0 = some r) :
    ∃ r', (Instr.findKey kt k es').run P w = .ok r' w ∧ FoundR m es es' 0 r r' := by
  cases hn : Instr.findNow d k es' 0 with
  | some r' => exact ⟨r', by simp [Instr.findKey, run_underlying hd, hn], findNow_found hd 0 hE h hn⟩
  | none =>
    obtain ⟨r', h1, h2⟩ := findAsking_found w 0 hE h
    exact ⟨r', by simp [Instr.findKey, run_underlying hd, hn, h1], h2⟩
end
end Go.Gh
/- The ghost machine: the operations on maps go on together with the model's. -/
namespace Go.Gh
open Go.RowKit
set_option linter.unusedVariables false
set_option linter.unusedSimpArgs false
section
variable {P : Program} {base : Nat} {m : PM} {H : GH} {w : World}

theorem run_newObj (o : Obj) (w : World) : (newObj o).run P w = .ok w.heap.size (w.alloc o) := rfl

theorem gKeyOk_type {kt : TypeId} {k : Value} (h : gKeyOk P kt k = true) : ∃ d, P.underlying kt = some d := by
  unfold gKeyOk at h
  simp only [Bool.and_eq_true] at h
  obtain ⟨⟨⟨h1, h2⟩, h3⟩, h4⟩ := h
  obtain ⟨u, hu⟩ := Option.isSome_iff_exists.1 h2
  cases hd : P.underlying kt with
  | some d => exact ⟨d, rfl⟩
  | none =>
    have hr := quick_run _ _ hu (default : World)
    have hr' : (Instr.checkKey false (9999 + 1) kt k).run P (default : World) = .ok u default := hr
    revert hr'
    generalize 9999 = n
    intro hr'
    simp [Instr.checkKey, underlying, hd] at hr'

theorem FoundR.at {es : List MapEntry} {es' : Array MapEntry} {i : Nat} {e : MapEntry} {r' : Option (Nat × Value)} (h : FoundR m es es'.toList 0 (some (i, e)) r') :
    ∃ e', r' = some (i, e'.val) ∧ es'[i]? = some e' ∧ EntR m e e' := by
  cases h with
  | yes hj h h' hr => exact ⟨_, rfl, by simpa using h', hr⟩
theorem FoundR.none_inv {es es' : List MapEntry} {r' : Option (Nat × Value)} (h : FoundR m es es' 0 none r') : r' = none := by cases h; rfl

theorem gLookup_VR {t : TypeId} {x x' k k' v : Value} {ok : Bool} (h : gLookup P t x k ok H = some v) (hx : VR m x x') (hk : VR m k k') (hR : Rel P base m H w) :
    ∃ v', (Instr.lookup t x' k' ok).run P w = .ok v' w ∧ VR m v v' := by
  unfold gLookup at h
  split at h
  case h_2 => cases h
  next kt et hu =>
  split at h
  case isFalse => cases h
  next hko =>
  obtain ⟨rfl, hkc, _, hck⟩ := gKeyOk_run hko hk
  obtain ⟨d, hd⟩ := gKeyOk_type hko
  split at h
  case h_2 => cases h
  next es z hes hz =>
  obtain ⟨_, _, _, hcl⟩ := gZero_some hz
  have hmap : ∃ es' : Array MapEntry, EntRs m es es'.toList ∧ ((x' = .map none ∧ es' = #[]) ∨ ∃ r c, x' = .map (some r) ∧ (getObj r).run P w = .ok (.map es' c) w) := by
    split at hes
    · injection hes with hes
      subst hes
      cases hx
      exact ⟨#[], .nil, .inl ⟨rfl, rfl⟩⟩
    · obtain ⟨⟨r, es0, clock⟩, hg, rfl⟩ := Option.map_eq_some_iff.1 hes
      obtain ⟨p, es', rfl, rfl, hp, _, _, hh, hE⟩ := gMap_inv hg hx hR
      exact ⟨es', hE, .inr ⟨p.blk, clock, rfl, run_getObj_map hh⟩⟩
  obtain ⟨es', hE, hget⟩ := hmap
  split at h
  · next i e hf =>
    injection h with h
    subst h
    obtain ⟨r', hr, hfd⟩ := findKey_found hd w hE hf
    obtain ⟨e', rfl, he', hee⟩ := hfd.at
    refine ⟨if ok then .tuple #[e'.val, .bool true] else e'.val, ?_, ?_⟩
    · rcases hget with ⟨rfl, rfl⟩ | ⟨r, c, rfl, hg⟩
      · simp at he'
      · simp [Instr.lookup, run_underlying hu, hg, hck, hr]
    · cases ok
      · exact hee.2.2.2
      · exact .tupA (.cons hee.2.2.2 (.cons (.bool true) .nil))
  · next hf =>
    injection h with h
    subst h
    obtain ⟨r', hr, hfd⟩ := findKey_found hd w hE hf
    have e := hfd.none_inv
    subst e
    refine ⟨if ok then .tuple #[z, .bool false] else z, ?_, ?_⟩
    · rcases hget with ⟨rfl, rfl⟩ | ⟨r, c, rfl, hg⟩
      · have hr' : (Instr.findKey kt k' []).run P w = .ok none w := hr
        simp [Instr.lookup, run_underlying hu, hck, hr', run_zeroValue' hz]
      · simp [Instr.lookup, run_underlying hu, hg, hck, hr, run_zeroValue' hz]
    · cases ok
      · exact closed_VR hcl
      · exact .tupA (.cons (closed_VR hcl) (.cons (.bool false) .nil))
  · cases h

theorem EntR.key {x y : MapEntry} (h : EntR m x y) {k : Value} (hk : closed k = true) : EntR m { x with key := k } { y with key := k } := ⟨rfl, hk, h.2.2.1, h.2.2.2⟩
theorem EntR.keyVal {x y : MapEntry} (h : EntR m x y) {k v v' : Value} (hk : closed k = true) (hv : VR m v v') : EntR m { x with key := k, val := v } { y with key := k, val := v' } := ⟨rfl, hk, h.2.2.1, hv⟩
theorem EntR.putVal {x y : MapEntry} (h : EntR m x y) {v v' : Value} (hv : VR m v v') : EntR m { x with val := v } { y with val := v' } := ⟨h.1, h.2.1, h.2.2.1, hv⟩

theorem gMapUpdate_step {t : TypeId} {x x' k k' v v' : Value} {H' : GH} (h : gMapUpdate P t x k v H = some H') (hx : VR m x x') (hk : VR m k k') (hv : VR m v v') (hR : Rel P base m H w) :
    StepU P base m H w (Instr.mapUpdate t x' k' v') H' := by
  unfold gMapUpdate at h
  split at h
  case h_2 => cases h
  next kt et r es clock hu hg =>
  obtain ⟨p, es', rfl, rfl, hp, hget, hb, hh, hE⟩ := gMap_inv hg hx hR
  split at h
  case isFalse => cases h
  next hko =>
  obtain ⟨rfl, hkc, hsb, hck⟩ := gKeyOk_run hko hk
  obtain ⟨d, hd⟩ := gKeyOk_type hko
  split at h
  · next i e hf =>
    split at h
    case isFalse => cases h
    next hbits =>
    injection h with h
    subst h
    obtain ⟨r', hr, hfd⟩ := findKey_found hd w hE hf
    obtain ⟨e', rfl, he', hee⟩ := hfd.at
    obtain ⟨h1, h2, h3⟩ := hR.turnMap (clock' := clock) (es2 := es.modify i fun e => { e with key := k', val := v }) (es2' := es'.modify i fun e => { e with key := k', val := v' }) hp hget hb hh (by
      rw [Array.toList_modify]
      exact hE.modify i _ _ fun x y hxy => hxy.keyVal hkc hv)
    refine ⟨_, m, ?_, h2, h3⟩
    have hb2 : Instr.sameBits 10000 e'.key k' = true := by rw [hee.1]; exact hbits
    simp [Instr.mapUpdate, run_underlying hu, run_getObj_map hh, hck, hr, he', Instr.keyThatStays, hb2, h1]
  · next hf =>
    injection h with h
    subst h
    obtain ⟨r', hr, hfd⟩ := findKey_found hd w hE hf
    have e := hfd.none_inv
    subst e
    obtain ⟨h1, h2, h3⟩ := hR.turnMap (clock' := clock + 1) (es2 := es ++ [{ key := k', val := v, born := clock }]) (es2' := es'.push { key := k', val := v', born := clock }) hp hget hb hh (by
      rw [Array.toList_push]
      exact hE.append (.cons ⟨rfl, hkc, rfl, hv⟩ .nil))
    refine ⟨_, m, ?_, h2, h3⟩
    simp [Instr.mapUpdate, run_underlying hu, run_getObj_map hh, hck, hr, h1]
  · cases h

theorem gMapEntryQ_some {t : TypeId} {x k v : Value} {H H' : GH} (h : gMapEntryQ P t x k H = some (v, H')) :
    gMapEntry P t x k H = some (v, H') ∧ ∃ a n, gLookup P t x k false H = some (.int a n) ∧ gLookup P t x k false H' = some (.int a n) := by
  unfold gMapEntryQ at h
  split at h
  · next v1 H1 h1 =>
    split at h
    · next a n b n' h2 h3 =>
      split at h
      · next he =>
        simp only [Option.some.injEq, Prod.mk.injEq] at h
        obtain ⟨rfl, rfl⟩ := h
        obtain ⟨rfl, rfl⟩ := he
        exact ⟨h1, _, _, h2, h3⟩
      · cases h
    · cases h
  · cases h

theorem gMapEntry_step {t : TypeId} {x x' k k' v : Value} {H' : GH} (h : gMapEntry P t x k H = some (v, H')) (hx : VR m x x') (hk : VR m k k') (hR : Rel P base m H w) :
    StepV P base m H w (Instr.mapEntry t x' k') v H' := by
  unfold gMapEntry at h
  split at h
  case h_2 => cases h
  next kt et r es clock hu hg =>
  obtain ⟨p, es', rfl, rfl, hp, hget, hb, hh, hE⟩ := gMap_inv hg hx hR
  split at h
  case isFalse => cases h
  next hko =>
  obtain ⟨rfl, hkc, hsb, hck⟩ := gKeyOk_run hko hk
  obtain ⟨d, hd⟩ := gKeyOk_type hko
  split at h
  · next i e hf =>
    split at h
    case isFalse => cases h
    next hbits =>
    simp only [Option.some.injEq, Prod.mk.injEq] at h
    obtain ⟨rfl, rfl⟩ := h
    obtain ⟨r', hr, hfd⟩ := findKey_found hd w hE hf
    obtain ⟨e', rfl, he', hee⟩ := hfd.at
    obtain ⟨h1, h2, h3⟩ := hR.turnMap (clock' := clock) (es2 := es.modify i fun e => { e with key := k' }) (es2' := es'.modify i fun e => { e with key := k' }) hp hget hb hh (by
      rw [Array.toList_modify]
      exact hE.modify i _ _ fun x y hxy => hxy.key hkc)
    refine ⟨_, _, m, ?_, .tupA (.cons hee.2.2.2 (.cons (.int .i64 e.born) .nil)), h2, h3⟩
    have hb2 : Instr.sameBits 10000 e'.key k' = true := by rw [hee.1]; exact hbits
    simp [Instr.mapEntry, run_underlying hu, run_getObj_map hh, hck, hr, he', Instr.keyThatStays, hb2, h1, goInt, hee.2.2.1]
  · next z hf hz =>
    simp only [Option.some.injEq, Prod.mk.injEq] at h
    obtain ⟨rfl, rfl⟩ := h
    obtain ⟨_, _, _, hcl⟩ := gZero_some hz
    obtain ⟨r', hr, hfd⟩ := findKey_found hd w hE hf
    have e := hfd.none_inv
    subst e
    obtain ⟨h1, h2, h3⟩ := hR.turnMap (clock' := clock + 1) (es2 := es ++ [{ key := k', val := z, born := clock }]) (es2' := es'.push { key := k', val := z, born := clock }) hp hget hb hh (by
      rw [Array.toList_push]
      exact hE.append (.cons ⟨rfl, hkc, rfl, closed_VR hcl⟩ .nil))
    refine ⟨_, _, m, ?_, .tupA (.cons (closed_VR hcl) (.cons (.int .i64 clock) .nil)), h2, h3⟩
    simp [Instr.mapEntry, run_underlying hu, run_getObj_map hh, hck, hr, h1, goInt, run_zeroValue' hz]
  · cases h

theorem findIdx_EntRs {es es' : List MapEntry} (h : EntRs m es es') (p : Nat → Bool) : es'.findIdx? (fun e => p e.born) = es.findIdx? (fun e => p e.born) := by
  induction h with
  | nil => rfl
  | cons hx t ih => rw [List.findIdx?_cons, List.findIdx?_cons, hx.2.2.1, ih]

theorem gEntryStore_step {t : TypeId} {x x' k k' v v' : Value} {H' : GH} (h : gEntryStore x k v H = some H') (hx : VR m x x') (hk : VR m k k') (hv : VR m v v') (hR : Rel P base m H w) :
    StepU P base m H w (Instr.entryStore t x' k' v') H' := by
  unfold gEntryStore at h
  split at h
  case h_2 => cases h
  next r es clock k0 born hg =>
  obtain ⟨p, es', rfl, rfl, hp, hget, hb, hh, hE⟩ := gMap_inv hg hx hR
  have e := hk.int_inv
  subst e
  split at h
  case h_2 => cases h
  next i hi =>
  injection h with h
  subst h
  obtain ⟨h1, h2, h3⟩ := hR.turnMap (clock' := clock) (es2 := es.modify i fun e => { e with val := v }) (es2' := es'.modify i fun e => { e with val := v' }) hp hget hb hh (by
    rw [Array.toList_modify]
    exact hE.modify i _ _ fun x y hxy => hxy.putVal hv)
  refine ⟨_, m, ?_, h2, h3⟩
  have hi' : es'.findIdx? (fun e => (e.born : Int) == born) = some i := by
    rw [← hi]
    obtain ⟨l⟩ := es'
    rw [List.findIdx?_toArray]
    exact findIdx_EntRs hE fun n => (n : Int) == born
  simp [Instr.entryStore, run_getObj_map hh, asInt, asIntOf, hi', h1]

theorem gDelete_step {t ty : TypeId} {x x' k k' : Value} {H' : GH} (h : gDelete P t x k H = some H') (hx : VR m x x') (hk : VR m k k') (hR : Rel P base m H w) (tys : Array TypeId) (htys : tys[0]? = some t) :
    StepV P base m H w (Builtin.delete_ tys ty #[x', k']) (.tuple #[]) H' := by
  unfold gDelete at h
  split at h
  case h_2 => cases h
  next kt et r es clock hu hg =>
  obtain ⟨p, es', rfl, rfl, hp, hget, hb, hh, hE⟩ := gMap_inv hg hx hR
  split at h
  case isFalse => cases h
  next hko =>
  obtain ⟨rfl, hkc, hsb, hck⟩ := gKeyOk_run hko hk
  obtain ⟨d, hd⟩ := gKeyOk_type hko
  split at h
  · next i e hf =>
    injection h with h
    subst h
    obtain ⟨r', hr, hfd⟩ := findKey_found hd w hE hf
    obtain ⟨e', rfl, he', hee⟩ := hfd.at
    obtain ⟨h1, h2, h3⟩ := hR.turnMap (clock' := clock) (es2 := es.eraseIdx i) (es2' := es'.eraseIdxIfInBounds i) hp hget hb hh (by
      rw [Array.toList_eraseIdxIfInBounds]
      exact hE.eraseIdx i)
    refine ⟨_, _, m, ?_, VR.undef, h2, h3⟩
    simp [Builtin.delete_, htys, run_underlying hu, run_getObj_map hh, hck, hr, h1, undef]
  · next hf =>
    injection h with h
    subst h
    obtain ⟨r', hr, hfd⟩ := findKey_found hd w hE hf
    have e := hfd.none_inv
    subst e
    obtain ⟨h1, h2, h3⟩ := hR.turnMap (clock' := clock) (es2 := es) (es2' := es') hp hget hb hh hE
    refine ⟨_, _, m, ?_, VR.undef, h2, h3⟩
    simp [Builtin.delete_, htys, run_underlying hu, run_getObj_map hh, hck, hr, h1, undef]
  · cases h

theorem gMapLen_run {t ty kt et : TypeId} {x x' : Value} {r clock : Nat} {es : List MapEntry} (hu : P.underlying t = some (.map kt et)) (h : gMap x H = some (r, es, clock)) (hx : VR m x x') (hR : Rel P base m H w) :
    (Builtin.len_ #[t] ty #[x']).run P w = .ok (.int .i64 es.length) w := by
  obtain ⟨p, es', rfl, rfl, hp, hget, hb, hh, hE⟩ := gMap_inv h hx hR
  have := hE.length
  simp [Builtin.len_, run_underlying hu, run_getObj_map hh, goInt, this]

theorem gMakeMap_step (hR : Rel P base m H w) (hb : base ≤ w.heap.size) (t : TypeId) : StepV P base m H w (Instr.makeMap t none) (.map (some H.n)) (H.push (.map [] 0)) := by
  let p : Pin := ⟨w.heap.size, 0, 0, 0, false⟩
  obtain ⟨h1, h2⟩ := hR.new hb (.map [] 0) (.map #[] 0) p rfl (.map hb rfl fun i x y hx => by simp at hx)
  exact ⟨.map (some w.heap.size), _, _, by simp [Instr.makeMap, run_newObj], .map (PM.put_same m H.n p), h1, h2⟩

theorem Rel.newIter (hR : Rel P base m H w) (hb : base ≤ w.heap.size) (o : GObj) (r : Obj) (ho : ∀ m', PM.le m m' → ObjR P m' base ⟨w.heap.size, 0, 0, 0, false⟩ o r) {s : Sem Value}
    (hs : s.run P w = .ok (.pointer (some ⟨w.heap.size, 0, none⟩)) (w.alloc r)) : StepV P base m H w s (.pointer (some ⟨H.n, 0, none⟩)) (H.push o) := by
  let p : Pin := ⟨w.heap.size, 0, 0, 0, false⟩
  obtain ⟨h1, h2⟩ := hR.new hb o r p rfl (ho _ (hR.put_le p))
  exact ⟨_, _, _, hs, .ptr (p := p) 0 (PM.put_same m H.n p), h1, h2⟩

theorem gRange_step {t : TypeId} {x x' v : Value} {H' : GH} (h : gRange P t x H = some (v, H')) (hx : VR m x x') (hR : Rel P base m H w) (hb : base ≤ w.heap.size) :
    StepV P base m H w (Instr.range t x') v H' := by
  unfold gRange at h
  split at h
  · next s hu =>
    simp only [Option.some.injEq, Prod.mk.injEq] at h
    obtain ⟨rfl, rfl⟩ := h
    cases hx
    exact hR.newIter hb _ (.stringIter s 0) (fun _ _ => .strIter rfl hb) (by simp [Instr.range, run_underlying hu, run_newObj])
  · next kt et hu =>
    simp only [Option.some.injEq, Prod.mk.injEq] at h
    obtain ⟨rfl, rfl⟩ := h
    cases hx
    exact hR.newIter hb _ (.mapIter none 0 #[] 0) (fun m' _ => .mapIter rfl hb rfl (show optR m' none none from trivial)) (by simp [Instr.range, run_underlying hu, run_newObj])
  · next kt et r hu =>
    split at h
    case h_2 => cases h
    next es clock hg =>
    simp only [Option.some.injEq, Prod.mk.injEq] at h
    obtain ⟨rfl, rfl⟩ := h
    obtain ⟨p, es', _, rfl, hp, hget, hb', hh, hE⟩ := gMap_inv (r := r) (es := es) (clock := clock) (by simp [gMap, hg]) hx hR
    exact hR.newIter hb _ (.mapIter (some p.blk) clock #[] clock) (fun m' hm => .mapIter rfl hb rfl (show optR m' (some r) (some p.blk) from ⟨p, hm _ _ hp, rfl⟩)) (by simp [Instr.range, run_underlying hu, run_newObj, run_getObj_map hh])
  · cases h
end
end Go.Gh
/- The ghost machine: iterators. -/
namespace Go.Gh
open Go.RowKit
set_option linter.unusedVariables false
set_option linter.unusedSimpArgs false
section
variable {P : Program} {base : Nat} {m : PM} {H : GH} {w : World}

theorem choose_run (n : Nat) (hn : 0 < n) (w : World) : ∃ i w1, i < n ∧ (choose (.mapNext n)).run P w = .ok i w1 ∧ w1.heap = w.heap ∧ w1.os = w.os ∧ w1.tape = w.tape ∧ w1.output = w.output := by
  by_cases h : n ≤ 1
  · exact ⟨0, w, hn, by simp [Question.forced, h], rfl, rfl, rfl, rfl⟩
  · exact ⟨_, w.drew, Nat.mod_lt _ hn, by simp [Question.forced, h, Question.cut]; rfl, rfl, rfl, rfl, rfl⟩

/-- A step of which one of several outcomes comes. -/
def StepO (P : Program) (base : Nat) (m : PM) (H : GH) (w : World) (s : Sem Value) (outs : List (Value × GH)) : Prop :=
  ∃ x ∈ outs, StepV P base m H w s x.1 x.2
theorem StepO.one {s : Sem Value} {v : Value} {H' : GH} (h : StepV P base m H w s v H') : StepO P base m H w s [(v, H')] := ⟨_, List.mem_singleton.2 rfl, h⟩
theorem StepV.of_run {s : Sem Value} {v v' : Value} (hr : s.run P w = .ok v' w) (hv : VR m v v') (hR : Rel P base m H w) : StepV P base m H w s v H := ⟨v', w, m, hr, hv, hR, .refl _ _ _ _⟩

theorem EntRs.any {xs ys : List MapEntry} (h : EntRs m xs ys) (p : Nat → Bool) : (ys.all fun e => p e.born) = (xs.all fun e => p e.born) := by
  induction h with
  | nil => rfl
  | cons hx t ih => rw [List.all_cons, List.all_cons, hx.2.2.1, ih]
theorem EntRs.isEmpty {xs ys : List MapEntry} (h : EntRs m xs ys) : ys.isEmpty = xs.isEmpty := by cases h <;> rfl
theorem EntRs.find {xs ys : List MapEntry} (h : EntRs m xs ys) (p : Nat → Bool) : (xs.find? (fun e => p e.born) = none ∧ ys.find? (fun e => p e.born) = none) ∨ ∃ x y, xs.find? (fun e => p e.born) = some x ∧ ys.find? (fun e => p e.born) = some y ∧ EntR m x y := by
  induction h with
  | nil => exact .inl ⟨rfl, rfl⟩
  | cons hx t ih =>
    rename_i x y xs ys
    rw [List.find?_cons, List.find?_cons, hx.2.2.1]
    cases p x.born with
    | true => exact .inr ⟨x, y, rfl, rfl, hx⟩
    | false => exact ih

theorem Rel.turnIter (hR : Rel P base m H w) {r : Nat} {p : Pin} {o o' : GObj} {ob ob' : Obj} (hp : m r = some p) (hg : H.get r = some o) (hal : alive (some o) = true) (hb : base ≤ p.blk)
    (hh : w.heap[p.blk]? = some ob) (hcl : ∀ cs t fr, ob ≠ .cells cs t fr) (hl : ∀ q, ob ≠ .loop q) (hd : ∀ ds, ob ≠ .deferred ds) (hO : ObjR P m base p o' ob') :
    (setObj p.blk ob').run P w = .ok () { w with heap := w.heap.setIfInBounds p.blk ob' } ∧
      Rel P base m (H.set r o') { w with heap := w.heap.setIfInBounds p.blk ob' } ∧
      Go1 base m m H (H.set r o') w { w with heap := w.heap.setIfInBounds p.blk ob' } := by
  refine ⟨by cases ob <;> first | (exact absurd rfl (hcl _ _ _)) | simp [setObj, Sem.run, hh], hR.turn hp (by rw [hg]; exact hal) hb rfl rfl rfl rfl hO (fun q hq => ?_) (fun ds hq => ?_) (hR.alone hp (by rw [hg]; exact hal) hb)⟩
  · rw [hh] at hq
    injection hq with hq
    exact absurd hq (hl q)
  · rw [hh] at hq
    injection hq with hq
    exact absurd hq (hd ds)

theorem run_getObj {r : Nat} {o : Obj} (h : w.heap[r]? = some o) (hf : ∀ cs t fr, o ≠ .cells cs t fr) : (getObj r).run P w = .ok o w := by
  cases o <;> first | (exact absurd rfl (hf _ _ _)) | simp [getObj, Sem.run, h]

theorem gNext_step {it it' : Value} {s : Bool} {ty : TypeId} {outs : List (Value × GH)} (h : gNext it s H = some outs) (hv : VR m it it') (hR : Rel P base m H w) :
    StepO P base m H w (Instr.next it' s ty) outs := by
  unfold gNext at h
  split at h
  case h_2 => cases h
  next r =>
  obtain ⟨b, p, o, e1, hp, rfl⟩ := hv.ptr_inv
  injection e1 with e1 e2
  subst e1; subst e2
  obtain ⟨o, ob, ho, hob, hr⟩ := hR.obj r p hp
  split at h
  · next s0 pos hg =>
    rw [ho] at hg
    injection hg with hg
    subst hg
    cases hr with
    | strIter h0 hb =>
      have hget := run_getObj (P := P) hob (by intro _ _ _ h; cases h)
      split at h
      · next hlt =>
        injection h with h
        subst h
        obtain ⟨h1, h2, h3⟩ := hR.turnIter (o' := .strIter s0 (pos + (Utf8.decode s0 pos).2)) (ob' := .stringIter s0 (pos + (Utf8.decode s0 pos).2)) hp ho rfl hb hob (by intro _ _ _ h; cases h) (by intro q h; cases h) (by intro q h; cases h) (.strIter h0 hb)
        refine StepO.one ⟨_, _, m, ?_, .tupA (.cons (.bool true) (.cons (.int .i64 pos) (.cons (.int .i32 _) .nil))), h2, h3⟩
        simp [Instr.next, h0, hget, hlt, h1, goInt]
      · next hlt =>
        injection h with h
        subst h
        refine StepO.one (StepV.of_run ?_ (.tupA (.cons (.bool false) .nil)) hR)
        simp [Instr.next, h0, hget, hlt]
  · next since seen last hg =>
    rw [ho] at hg
    injection hg with hg
    subst hg
    injection h with h
    subst h
    cases hr with
    | mapIter h0 hb hs hm =>
      rename_i mo' seen'
      cases mo' with
      | some _ => cases hm
      | none =>
        have hget := run_getObj (P := P) hob (by intro _ _ _ h; cases h)
        exact StepO.one (StepV.of_run (by simp [Instr.next, h0, hget]) (.tupA (.cons (.bool false) .nil)) hR)
  · next mb since seen last hg =>
    rw [ho] at hg
    injection hg with hg
    subst hg
    split at h
    case h_2 => cases h
    next es clock hgm =>
    split at h
    · cases h
    next hlost =>
    cases hr with
    | mapIter h0 hb hs hm =>
      rename_i mo' seen'
      cases mo' with
      | none => cases hm
      | some B =>
        obtain ⟨q, hq, rfl⟩ := hm
        subst hs
        obtain ⟨_, es', _, _, hp2, _, hbq, hhq, hE⟩ := gMap_inv (v := .map (some mb)) (v' := .map (some q.blk)) (r := mb) (es := es) (clock := clock) (by simp [gMap, hgm]) (.map hq) hR
        rw [hq] at hp2
        injection hp2 with hp2
        subst hp2
        have hget := run_getObj (P := P) hob (by intro _ _ _ h; cases h)
        have hgetm := run_getObj (P := P) hhq (by intro _ _ _ h; cases h)
        injection h with h
        -- what is left, on both sides
        have hlost' : ¬ (!seen'.isEmpty && !es'.isEmpty && es'.all fun e => decide (e.born ≥ last)) = true := by
          intro hc
          apply hlost
          have e1 := hE.any fun n => decide (n ≥ last)
          have e2 := hE.isEmpty
          obtain ⟨l⟩ := es'
          obtain ⟨sl⟩ := seen'
          rw [List.isEmpty_toArray, List.isEmpty_toArray, List.all_toArray] at hc
          rw [← e1, ← e2]
          exact hc
        generalize hleft : es.filter (fun e => !seen'.toList.contains e.born) = left at h
        generalize hleft' : es'.filter (fun e => !seen'.contains e.born) = left'
        have hL : EntRs m left left'.toList := by
          rw [← hleft, ← hleft', Array.toList_filter]
          have := hE.filter fun n => !seen'.toList.contains n
          simpa using this
        have hO : EntRs m (left.filter fun e => decide (e.born < since)) (left'.filter fun e => decide (e.born < since)).toList := by
          rw [Array.toList_filter]; exact hL.filter fun n => decide (n < since)
        have hN : EntRs m (left.filter fun e => decide (e.born ≥ since)) (left'.filter fun e => decide (e.born ≥ since)).toList := by
          rw [Array.toList_filter]; exact hL.filter fun n => decide (n ≥ since)
        generalize left.filter (fun e => decide (e.born < since)) = old at h hO
        generalize left.filter (fun e => decide (e.born ≥ since)) = new at h hN
        generalize hold' : left'.filter (fun e => decide (e.born < since)) = old' at hO
        generalize hnew' : left'.filter (fun e => decide (e.born ≥ since)) = new' at hN
        have hem : old'.isEmpty = old.isEmpty := by
          have := hO.isEmpty
          obtain ⟨l⟩ := old'
          simpa using this
        generalize hcand : (if old'.isEmpty then #[none] else #[]) ++ (old' ++ new').map some = cand
        have hpos : 0 < cand.size := by
          rw [← hcand]
          cases hemp : old'.isEmpty with
          | true => simp; omega
          | false =>
            have : old'.size ≠ 0 := by intro h0; rw [Array.isEmpty_iff_size_eq_zero.2 h0] at hemp; cases hemp
            simp; omega
        obtain ⟨i, w1, hi, hch, g1, g2, g3, g4⟩ := choose_run (P := P) cand.size hpos w
        have hR1 := hR.drew g1
        have hG1 : Go1 base m m H H w w1 := Go1.drew g1 g2 g3 g4
        have hAll := hO.append hN
        rw [show old'.toList ++ new'.toList = (old' ++ new').toList by simp] at hAll
        cases hc : cand[i]'hi with
        | none =>
          have hem' : old.isEmpty = true := by
            cases hemp : old.isEmpty with
            | true => rfl
            | false =>
              exfalso
              rw [hemp] at hem
              have : none ∈ cand := hc ▸ Array.getElem_mem hi
              rw [← hcand, hem] at this
              simp at this
          have hob1 : w1.heap[p.blk]? = some (.mapIter (some q.blk) since seen' last) := by rw [g1]; exact hob
          obtain ⟨_, h2, h3⟩ := hR1.turnIter (o' := .dead) (ob' := .mapIter (some q.blk) since seen' last) hp ho rfl hb hob1
            (by intro _ _ _ h; cases h) (by intro q h; cases h) (by intro q h; cases h) .dead
          have hsame : w1.heap.setIfInBounds p.blk (.mapIter (some q.blk) since seen' last) = w1.heap := by
            apply Array.ext_getElem?
            intro i
            rw [Array.getElem?_setIfInBounds]
            split
            · next e =>
              subst e
              split
              · exact hob1.symm
              · next hlt => rw [Array.getElem?_eq_none (Nat.not_lt.1 hlt)]
            · rfl
          rw [hsame] at h2 h3
          refine ⟨(.tuple #[.bool false], H.set r .dead), ?_, ?_⟩
          · rw [← h, hem']; simp
          · refine ⟨_, w1, m, ?_, .tupA (.cons (.bool false) .nil), h2, hG1.trans h3⟩
            have hci : cand[i]? = some none := by rw [Array.getElem?_eq_getElem hi, hc]
            simp only [Instr.next, Sem.run_bind, Sem.run_pure, h0, hget, Result.andThen, hgetm, hlost', if_false, Bool.false_eq_true, hleft', hold', hnew', hcand, hch, hci]
        | some e' =>
          have hmem : some e' ∈ cand := hc ▸ Array.getElem_mem hi
          have hmem' : e' ∈ (old' ++ new').toList := by
            rw [← hcand] at hmem
            rw [Array.mem_append] at hmem
            rcases hmem with hm | hm
            · split at hm
              · simp at hm
              · simp at hm
            · simpa using hm
          obtain ⟨k, hk, hke⟩ := List.getElem_of_mem hmem'
          have hke' : (old' ++ new').toList[k]? = some e' := by rw [List.getElem?_eq_getElem hk, hke]
          have hk2 : k < (old ++ new).length := by rw [hAll.length]; exact hk
          have hee := hAll.get k _ _ (List.getElem?_eq_getElem hk2) hke'
          have hob1 : w1.heap[p.blk]? = some (.mapIter (some q.blk) since seen' last) := by rw [g1]; exact hob
          generalize hx : (old ++ new)[k] = x at hee
          have hci : cand[i]? = some (some e') := by rw [Array.getElem?_eq_getElem hi, hc]
          obtain ⟨h1, h2, h3⟩ := hR1.turnIter (o' := .mapIter (some mb) since (seen'.toList ++ [x.born]) clock) (ob' := .mapIter (some q.blk) since (seen'.push e'.born) clock) hp ho rfl hb hob1
            (by intro _ _ _ h; cases h) (by intro q h; cases h) (by intro q h; cases h) (.mapIter h0 hb (by rw [Array.toList_push, hee.2.2.1]) ⟨q, hq, rfl⟩)
          refine ⟨(.tuple #[.bool true, x.key, x.val], H.set r (.mapIter (some mb) since (seen'.toList ++ [x.born]) clock)), ?_, ?_⟩
          · rw [← h]
            refine List.mem_append_right _ (List.mem_map.2 ⟨x, ?_, rfl⟩)
            rw [← hx]
            exact List.getElem_mem hk2
          · refine ⟨_, _, m, ?_, .tupA (.cons (.bool true) (.cons (closed_VR hee.2.1) (.cons hee.2.2.2 .nil))), h2, hG1.trans h3⟩
            simp only [Instr.next, Sem.run_bind, Sem.run_pure, h0, hget, Result.andThen, hgetm, hlost', if_false, Bool.false_eq_true, hleft', hold', hnew', hcand, hch, hci, h1, hee.1]
  · cases h

theorem gEntry_VR {it it' v : Value} (h : gEntry it H = some v) (hv : VR m it it') (hR : Rel P base m H w) : ∃ v', (Instr.entry it').run P w = .ok v' w ∧ VR m v v' := by
  unfold gEntry at h
  split at h
  case h_2 => cases h
  next r =>
  obtain ⟨b, p, o, e1, hp, rfl⟩ := hv.ptr_inv
  injection e1 with e1 e2
  subst e1; subst e2
  obtain ⟨o, ob, ho, hob, hr⟩ := hR.obj r p hp
  split at h
  case h_2 => cases h
  next mb since seen stepped hg =>
  rw [ho] at hg
  injection hg with hg
  subst hg
  split at h
  case h_2 => cases h
  next stamp es clock hst hgm =>
  split at h
  · cases h
  next hck =>
  cases hr with
  | mapIter h0 hb hs hm =>
    rename_i mo' seen'
    cases mo' with
    | none => cases hm
    | some B =>
      obtain ⟨q, hq, rfl⟩ := hm
      subst hs
      obtain ⟨_, es', _, _, hp2, _, hbq, hhq, hE⟩ := gMap_inv (v := .map (some mb)) (v' := .map (some q.blk)) (r := mb) (es := es) (clock := clock) (by simp [gMap, hgm]) (.map hq) hR
      rw [hq] at hp2
      injection hp2 with hp2
      subst hp2
      have hget := run_getObj (P := P) hob (by intro _ _ _ h; cases h)
      have hgetm := run_getObj (P := P) hhq (by intro _ _ _ h; cases h)
      have hbk : seen'.back? = some stamp := by
        obtain ⟨l⟩ := seen'
        simpa using hst
      split at h
      · next e hf =>
        injection h with h
        subst h
        rcases hE.find (fun n => n == stamp) with ⟨h1, _⟩ | ⟨x, y, h1, h2, h3⟩
        · rw [h1] at hf; cases hf
        · rw [h1] at hf
          injection hf with hf
          subst hf
          refine ⟨.tuple #[y.key, y.val], ?_, .tupA (.cons (by rw [h3.1]; exact closed_VR h3.2.1) (.cons h3.2.2.2 .nil))⟩
          have h2' : es'.find? (fun e => e.born == stamp) = some y := by
            obtain ⟨l⟩ := es'
            simpa using h2
          have hck' : (clock != stepped) = false := by simpa using hck
          simp only [Instr.entry, Sem.run_bind, Sem.run_pure, h0, hget, Result.andThen, hbk, hgetm, hck', if_false, Bool.false_eq_true, h2']
      · cases h
end
end Go.Gh
