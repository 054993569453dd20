/- The ghost machine: the operations on maps go on together with the model's. -/
import Derived.Test.YthicilkmjamefaaGeMaps
namespace Go.Gh
open Go.RowKit
set_option linter.unusedVariables false
set_option linter.unusedSimpArgs false
section
variable {P : Program} {base : Nat} {m : PM} {H : GH} {w : World}

theorem run_newObj (o : Obj) (w : World) : (newObj o).run P w = .ok w.heap.size (w.alloc o) := rfl

theorem gKeyOk_type {kt : TypeId} {k : Value} (h : gKeyOk P kt k = true) : ∃ d, P.underlying kt = some d := by
  unfold gKeyOk at h
  simp only [Bool.and_eq_true] at h
  obtain ⟨⟨⟨h1, h2⟩, h3⟩, h4⟩ := h
  obtain ⟨u, hu⟩ := Option.isSome_iff_exists.1 h2
  cases hd : P.underlying kt with
  | some d => exact ⟨d, rfl⟩
  | none =>
    have hr := quick_run _ _ hu (default : World)
    have hr' : (Instr.checkKey false (9999 + 1) kt k).run P (default : World) = .ok u default := hr
    revert hr'
    generalize 9999 = n
    intro hr'
    simp [Instr.checkKey, underlying, hd] at hr'

theorem FoundR.at {es : List MapEntry} {es' : Array MapEntry} {i : Nat} {e : MapEntry} {r' : Option (Nat × Value)} (h : FoundR m es es'.toList 0 (some (i, e)) r') :
    ∃ e', r' = some (i, e'.val) ∧ es'[i]? = some e' ∧ EntR m e e' := by
  cases h with
  | yes hj h h' hr => exact ⟨_, rfl, by simpa using h', hr⟩
theorem FoundR.none_inv {es es' : List MapEntry} {r' : Option (Nat × Value)} (h : FoundR m es es' 0 none r') : r' = none := by cases h; rfl

theorem gLookup_VR {t : TypeId} {x x' k k' v : Value} {ok : Bool} (h : gLookup P t x k ok H = some v) (hx : VR m x x') (hk : VR m k k') (hR : Rel P base m H w) :
    ∃ v', (Instr.lookup t x' k' ok).run P w = .ok v' w ∧ VR m v v' := by
  unfold gLookup at h
  split at h
  case h_2 => cases h
  next kt et hu =>
  split at h
  case isFalse => cases h
  next hko =>
  obtain ⟨rfl, hkc, _, hck⟩ := gKeyOk_run hko hk
  obtain ⟨d, hd⟩ := gKeyOk_type hko
  split at h
  case h_2 => cases h
  next es z hes hz =>
  obtain ⟨_, _, _, hcl⟩ := gZero_some hz
  have hmap : ∃ es' : Array MapEntry, EntRs m es es'.toList ∧ ((x' = .map none ∧ es' = #[]) ∨ ∃ r c, x' = .map (some r) ∧ (getObj r).run P w = .ok (.map es' c) w) := by
    split at hes
    · injection hes with hes
      subst hes
      cases hx
      exact ⟨#[], .nil, .inl ⟨rfl, rfl⟩⟩
    · obtain ⟨⟨r, es0, clock⟩, hg, rfl⟩ := Option.map_eq_some_iff.1 hes
      obtain ⟨p, es', rfl, rfl, hp, _, _, hh, hE⟩ := gMap_inv hg hx hR
      exact ⟨es', hE, .inr ⟨p.blk, clock, rfl, run_getObj_map hh⟩⟩
  obtain ⟨es', hE, hget⟩ := hmap
  split at h
  · next i e hf =>
    injection h with h
    subst h
    obtain ⟨r', hr, hfd⟩ := findKey_found hd w hE hf
    obtain ⟨e', rfl, he', hee⟩ := hfd.at
    refine ⟨if ok then .tuple #[e'.val, .bool true] else e'.val, ?_, ?_⟩
    · rcases hget with ⟨rfl, rfl⟩ | ⟨r, c, rfl, hg⟩
      · simp at he'
      · simp [Instr.lookup, run_underlying hu, hg, hck, hr]
    · cases ok
      · exact hee.2.2.2
      · exact .tupA (.cons hee.2.2.2 (.cons (.bool true) .nil))
  · next hf =>
    injection h with h
    subst h
    obtain ⟨r', hr, hfd⟩ := findKey_found hd w hE hf
    have e := hfd.none_inv
    subst e
    refine ⟨if ok then .tuple #[z, .bool false] else z, ?_, ?_⟩
    · rcases hget with ⟨rfl, rfl⟩ | ⟨r, c, rfl, hg⟩
      · have hr' : (Instr.findKey kt k' []).run P w = .ok none w := hr
        simp [Instr.lookup, run_underlying hu, hck, hr', run_zeroValue' hz]
      · simp [Instr.lookup, run_underlying hu, hg, hck, hr, run_zeroValue' hz]
    · cases ok
      · exact closed_VR hcl
      · exact .tupA (.cons (closed_VR hcl) (.cons (.bool false) .nil))
  · cases h

theorem EntR.key {x y : MapEntry} (h : EntR m x y) {k : Value} (hk : closed k = true) : EntR m { x with key := k } { y with key := k } := ⟨rfl, hk, h.2.2.1, h.2.2.2⟩
theorem EntR.keyVal {x y : MapEntry} (h : EntR m x y) {k v v' : Value} (hk : closed k = true) (hv : VR m v v') : EntR m { x with key := k, val := v } { y with key := k, val := v' } := ⟨rfl, hk, h.2.2.1, hv⟩
theorem EntR.putVal {x y : MapEntry} (h : EntR m x y) {v v' : Value} (hv : VR m v v') : EntR m { x with val := v } { y with val := v' } := ⟨h.1, h.2.1, h.2.2.1, hv⟩

theorem gMapUpdate_step {t : TypeId} {x x' k k' v v' : Value} {H' : GH} (h : gMapUpdate P t x k v H = some H') (hx : VR m x x') (hk : VR m k k') (hv : VR m v v') (hR : Rel P base m H w) :
    StepU P base m H w (Instr.mapUpdate t x' k' v') H' := by
  unfold gMapUpdate at h
  split at h
  case h_2 => cases h
  next kt et r es clock hu hg =>
  obtain ⟨p, es', rfl, rfl, hp, hget, hb, hh, hE⟩ := gMap_inv hg hx hR
  split at h
  case isFalse => cases h
  next hko =>
  obtain ⟨rfl, hkc, hsb, hck⟩ := gKeyOk_run hko hk
  obtain ⟨d, hd⟩ := gKeyOk_type hko
  split at h
  · next i e hf =>
    split at h
    case isFalse => cases h
    next hbits =>
    injection h with h
    subst h
    obtain ⟨r', hr, hfd⟩ := findKey_found hd w hE hf
    obtain ⟨e', rfl, he', hee⟩ := hfd.at
    obtain ⟨h1, h2, h3⟩ := hR.turnMap (clock' := clock) (es2 := es.modify i fun e => { e with key := k', val := v }) (es2' := es'.modify i fun e => { e with key := k', val := v' }) hp hget hb hh (by
      rw [Array.toList_modify]
      exact hE.modify i _ _ fun x y hxy => hxy.keyVal hkc hv)
    refine ⟨_, m, ?_, h2, h3⟩
    have hb2 : Instr.sameBits 10000 e'.key k' = true := by rw [hee.1]; exact hbits
    simp [Instr.mapUpdate, run_underlying hu, run_getObj_map hh, hck, hr, he', Instr.keyThatStays, hb2, h1]
  · next hf =>
    injection h with h
    subst h
    obtain ⟨r', hr, hfd⟩ := findKey_found hd w hE hf
    have e := hfd.none_inv
    subst e
    obtain ⟨h1, h2, h3⟩ := hR.turnMap (clock' := clock + 1) (es2 := es ++ [{ key := k', val := v, born := clock }]) (es2' := es'.push { key := k', val := v', born := clock }) hp hget hb hh (by
      rw [Array.toList_push]
      exact hE.append (.cons ⟨rfl, hkc, rfl, hv⟩ .nil))
    refine ⟨_, m, ?_, h2, h3⟩
    simp [Instr.mapUpdate, run_underlying hu, run_getObj_map hh, hck, hr, h1]
  · cases h

theorem gMapEntry_step {t : TypeId} {x x' k k' v : Value} {H' : GH} (h : gMapEntry P t x k H = some (v, H')) (hx : VR m x x') (hk : VR m k k') (hR : Rel P base m H w) :
    StepV P base m H w (Instr.mapEntry t x' k') v H' := by
  unfold gMapEntry at h
  split at h
  case h_2 => cases h
  next kt et r es clock hu hg =>
  obtain ⟨p, es', rfl, rfl, hp, hget, hb, hh, hE⟩ := gMap_inv hg hx hR
  split at h
  case isFalse => cases h
  next hko =>
  obtain ⟨rfl, hkc, hsb, hck⟩ := gKeyOk_run hko hk
  obtain ⟨d, hd⟩ := gKeyOk_type hko
  split at h
  · next i e hf =>
    split at h
    case isFalse => cases h
    next hbits =>
    simp only [Option.some.injEq, Prod.mk.injEq] at h
    obtain ⟨rfl, rfl⟩ := h
    obtain ⟨r', hr, hfd⟩ := findKey_found hd w hE hf
    obtain ⟨e', rfl, he', hee⟩ := hfd.at
    obtain ⟨h1, h2, h3⟩ := hR.turnMap (clock' := clock) (es2 := es.modify i fun e => { e with key := k' }) (es2' := es'.modify i fun e => { e with key := k' }) hp hget hb hh (by
      rw [Array.toList_modify]
      exact hE.modify i _ _ fun x y hxy => hxy.key hkc)
    refine ⟨_, _, m, ?_, .tupA (.cons hee.2.2.2 (.cons (.int .i64 e.born) .nil)), h2, h3⟩
    have hb2 : Instr.sameBits 10000 e'.key k' = true := by rw [hee.1]; exact hbits
    simp [Instr.mapEntry, run_underlying hu, run_getObj_map hh, hck, hr, he', Instr.keyThatStays, hb2, h1, goInt, hee.2.2.1]
  · next z hf hz =>
    simp only [Option.some.injEq, Prod.mk.injEq] at h
    obtain ⟨rfl, rfl⟩ := h
    obtain ⟨_, _, _, hcl⟩ := gZero_some hz
    obtain ⟨r', hr, hfd⟩ := findKey_found hd w hE hf
    have e := hfd.none_inv
    subst e
    obtain ⟨h1, h2, h3⟩ := hR.turnMap (clock' := clock + 1) (es2 := es ++ [{ key := k', val := z, born := clock }]) (es2' := es'.push { key := k', val := z, born := clock }) hp hget hb hh (by
      rw [Array.toList_push]
      exact hE.append (.cons ⟨rfl, hkc, rfl, closed_VR hcl⟩ .nil))
    refine ⟨_, _, m, ?_, .tupA (.cons (closed_VR hcl) (.cons (.int .i64 clock) .nil)), h2, h3⟩
    simp [Instr.mapEntry, run_underlying hu, run_getObj_map hh, hck, hr, h1, goInt, run_zeroValue' hz]
  · cases h

theorem findIdx_EntRs {es es' : List MapEntry} (h : EntRs m es es') (p : Nat → Bool) : es'.findIdx? (fun e => p e.born) = es.findIdx? (fun e => p e.born) := by
  induction h with
  | nil => rfl
  | cons hx t ih => rw [List.findIdx?_cons, List.findIdx?_cons, hx.2.2.1, ih]

theorem gEntryStore_step {t : TypeId} {x x' k k' v v' : Value} {H' : GH} (h : gEntryStore x k v H = some H') (hx : VR m x x') (hk : VR m k k') (hv : VR m v v') (hR : Rel P base m H w) :
    StepU P base m H w (Instr.entryStore t x' k' v') H' := by
  unfold gEntryStore at h
  split at h
  case h_2 => cases h
  next r es clock k0 born hg =>
  obtain ⟨p, es', rfl, rfl, hp, hget, hb, hh, hE⟩ := gMap_inv hg hx hR
  have e := hk.int_inv
  subst e
  split at h
  case h_2 => cases h
  next i hi =>
  injection h with h
  subst h
  obtain ⟨h1, h2, h3⟩ := hR.turnMap (clock' := clock) (es2 := es.modify i fun e => { e with val := v }) (es2' := es'.modify i fun e => { e with val := v' }) hp hget hb hh (by
    rw [Array.toList_modify]
    exact hE.modify i _ _ fun x y hxy => hxy.putVal hv)
  refine ⟨_, m, ?_, h2, h3⟩
  have hi' : es'.findIdx? (fun e => (e.born : Int) == born) = some i := by
    rw [← hi]
    obtain ⟨l⟩ := es'
    rw [List.findIdx?_toArray]
    exact findIdx_EntRs hE fun n => (n : Int) == born
  simp [Instr.entryStore, run_getObj_map hh, asInt, asIntOf, hi', h1]

theorem gDelete_step {t ty : TypeId} {x x' k k' : Value} {H' : GH} (h : gDelete P t x k H = some H') (hx : VR m x x') (hk : VR m k k') (hR : Rel P base m H w) (tys : Array TypeId) (htys : tys[0]? = some t) :
    StepV P base m H w (Builtin.delete_ tys ty #[x', k']) (.tuple #[]) H' := by
  unfold gDelete at h
  split at h
  case h_2 => cases h
  next kt et r es clock hu hg =>
  obtain ⟨p, es', rfl, rfl, hp, hget, hb, hh, hE⟩ := gMap_inv hg hx hR
  split at h
  case isFalse => cases h
  next hko =>
  obtain ⟨rfl, hkc, hsb, hck⟩ := gKeyOk_run hko hk
  obtain ⟨d, hd⟩ := gKeyOk_type hko
  split at h
  · next i e hf =>
    injection h with h
    subst h
    obtain ⟨r', hr, hfd⟩ := findKey_found hd w hE hf
    obtain ⟨e', rfl, he', hee⟩ := hfd.at
    obtain ⟨h1, h2, h3⟩ := hR.turnMap (clock' := clock) (es2 := es.eraseIdx i) (es2' := es'.eraseIdxIfInBounds i) hp hget hb hh (by
      rw [Array.toList_eraseIdxIfInBounds]
      exact hE.eraseIdx i)
    refine ⟨_, _, m, ?_, VR.undef, h2, h3⟩
    simp [Builtin.delete_, htys, run_underlying hu, run_getObj_map hh, hck, hr, h1, undef]
  · next hf =>
    injection h with h
    subst h
    obtain ⟨r', hr, hfd⟩ := findKey_found hd w hE hf
    have e := hfd.none_inv
    subst e
    obtain ⟨h1, h2, h3⟩ := hR.turnMap (clock' := clock) (es2 := es) (es2' := es') hp hget hb hh hE
    refine ⟨_, _, m, ?_, VR.undef, h2, h3⟩
    simp [Builtin.delete_, htys, run_underlying hu, run_getObj_map hh, hck, hr, h1, undef]
  · cases h

theorem gMapLen_run {t ty kt et : TypeId} {x x' : Value} {r clock : Nat} {es : List MapEntry} (hu : P.underlying t = some (.map kt et)) (h : gMap x H = some (r, es, clock)) (hx : VR m x x') (hR : Rel P base m H w) :
    (Builtin.len_ #[t] ty #[x']).run P w = .ok (.int .i64 es.length) w := by
  obtain ⟨p, es', rfl, rfl, hp, hget, hb, hh, hE⟩ := gMap_inv h hx hR
  have := hE.length
  simp [Builtin.len_, run_underlying hu, run_getObj_map hh, goInt, this]

theorem gMakeMap_step (hR : Rel P base m H w) (hb : base ≤ w.heap.size) (t : TypeId) : StepV P base m H w (Instr.makeMap t none) (.map (some H.n)) (H.push (.map [] 0)) := by
  let p : Pin := ⟨w.heap.size, 0, 0, 0, false⟩
  obtain ⟨h1, h2⟩ := hR.new hb (.map [] 0) (.map #[] 0) p rfl (.map hb rfl fun i x y hx => by simp at hx)
  exact ⟨.map (some w.heap.size), _, _, by simp [Instr.makeMap, run_newObj], .map (PM.put_same m H.n p), h1, h2⟩

theorem Rel.newIter (hR : Rel P base m H w) (hb : base ≤ w.heap.size) (o : GObj) (r : Obj) (ho : ∀ m', PM.le m m' → ObjR P m' base ⟨w.heap.size, 0, 0, 0, false⟩ o r) {s : Sem Value}
    (hs : s.run P w = .ok (.pointer (some ⟨w.heap.size, 0, none⟩)) (w.alloc r)) : StepV P base m H w s (.pointer (some ⟨H.n, 0, none⟩)) (H.push o) := by
  let p : Pin := ⟨w.heap.size, 0, 0, 0, false⟩
  obtain ⟨h1, h2⟩ := hR.new hb o r p rfl (ho _ (hR.put_le p))
  exact ⟨_, _, _, hs, .ptr (p := p) 0 (PM.put_same m H.n p), h1, h2⟩

theorem gRange_step {t : TypeId} {x x' v : Value} {H' : GH} (h : gRange P t x H = some (v, H')) (hx : VR m x x') (hR : Rel P base m H w) (hb : base ≤ w.heap.size) :
    StepV P base m H w (Instr.range t x') v H' := by
  unfold gRange at h
  split at h
  · next s hu =>
    simp only [Option.some.injEq, Prod.mk.injEq] at h
    obtain ⟨rfl, rfl⟩ := h
    cases hx
    exact hR.newIter hb _ (.stringIter s 0) (fun _ _ => .strIter rfl hb) (by simp [Instr.range, run_underlying hu, run_newObj])
  · next kt et hu =>
    simp only [Option.some.injEq, Prod.mk.injEq] at h
    obtain ⟨rfl, rfl⟩ := h
    cases hx
    exact hR.newIter hb _ (.mapIter none 0 #[] 0) (fun m' _ => .mapIter rfl hb rfl (show optR m' none none from trivial)) (by simp [Instr.range, run_underlying hu, run_newObj])
  · next kt et r hu =>
    split at h
    case h_2 => cases h
    next es clock hg =>
    simp only [Option.some.injEq, Prod.mk.injEq] at h
    obtain ⟨rfl, rfl⟩ := h
    obtain ⟨p, es', _, rfl, hp, hget, hb', hh, hE⟩ := gMap_inv (r := r) (es := es) (clock := clock) (by simp [gMap, hg]) hx hR
    exact hR.newIter hb _ (.mapIter (some p.blk) clock #[] clock) (fun m' hm => .mapIter rfl hb rfl (show optR m' (some r) (some p.blk) from ⟨p, hm _ _ hp, rfl⟩)) (by simp [Instr.range, run_underlying hu, run_newObj, run_getObj_map hh])
  · cases h
end
end Go.Gh
