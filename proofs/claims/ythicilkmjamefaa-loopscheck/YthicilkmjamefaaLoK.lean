/- The program's Check: the map that counts names. -/
import Derived.Test.YthicilkmjamefaaLoI
import Derived.Test.YthicilkmjamefaaShL24
namespace Go.Proofs.Ythicilkmjamefaa
open Go.Gh
set_option linter.unusedVariables false
set_option linter.unusedSimpArgs false

theorem idKey (x : Idn) : gKeyOk Try.prog 29 (idV x) = true := by
  have h : gKeyOk Try.prog 29 (idV x) = Instr.sameBits 10000 (idV x) (idV x) := by kernel_rfl
  rw [h]
  simp [idV, Instr.sameBits]
theorem idSame (x : Idn) : Instr.sameBits 10000 (idV x) (idV x) = true := by simp [idV, Instr.sameBits]
abbrev Cnt := List (Idn × Nat)
def cntE : Cnt → Nat → List MapEntry
  | [], _ => []
  | (x, n) :: r, i => { key := idV x, val := .int .i64 n, born := i } :: cntE r (i + 1)
def lookM : Cnt → Idn → Nat
  | [], _ => 0
  | (y, n) :: r, x => if x = y then n else lookM r x
def posM : Cnt → Idn → Nat
  | [], _ => 0
  | (y, _) :: r, x => if x = y then 0 else posM r x + 1
def setM : Cnt → Idn → Nat → Cnt
  | [], _, _ => []
  | (y, n) :: r, x, k => if x = y then (y, k) :: r else (y, n) :: setM r x k
def keys (m : Cnt) : List Idn := m.map (·.1)
/-- With room for the name. -/
def roomM (m : Cnt) (x : Idn) : Cnt := if x ∈ keys m then m else m ++ [(x, 0)]
def bumpM (m : Cnt) (x : Idn) : Cnt := setM (roomM m x) x (lookM m x + 1)
theorem cntE_len : ∀ (m : Cnt) (j : Nat), (cntE m j).length = m.length
  | [], _ => rfl
  | (x, n) :: r, j => by simp [cntE, cntE_len r]
theorem cntE_append (m : Cnt) (x : Idn) (n j : Nat) : cntE (m ++ [(x, n)]) j = cntE m j ++ [{ key := idV x, val := .int .i64 n, born := j + m.length }] := by
  induction m generalizing j with
  | nil => simp [cntE]
  | cons y r ih =>
    obtain ⟨y, k⟩ := y
    simp only [List.cons_append, cntE, ih, List.length_cons]
    rw [show j + 1 + r.length = j + (r.length + 1) by omega]
theorem findM_no {x : Idn} : ∀ (m : Cnt) (j n : Nat), x ∉ keys m → gFind Try.prog 29 (idV x) (cntE m j) n = some none
  | [], _, _, _ => rfl
  | (y, k) :: r, j, n, h => by
    simp only [keys, List.map_cons, List.mem_cons, not_or] at h
    unfold cntE gFind
    simp only [idEq', decide_eq_false h.1]
    exact findM_no r _ _ h.2
theorem findM_yes {x : Idn} : ∀ (m : Cnt) (j n : Nat), x ∈ keys m → gFind Try.prog 29 (idV x) (cntE m j) n = some (some (n + posM m x, { key := idV x, val := .int .i64 (lookM m x), born := j + posM m x }))
  | [], _, _, h => by cases h
  | (y, k) :: r, j, n, h => by
    unfold cntE gFind posM lookM
    by_cases hxy : x = y
    · subst hxy
      simp only [idEq', decide_true, if_true, Nat.add_zero]
    · simp only [idEq', decide_eq_false hxy, if_neg hxy]
      have h' : x ∈ keys r := by
        simp only [keys, List.map_cons, List.mem_cons] at h
        exact h.resolve_left hxy
      rw [findM_yes r (j + 1) (n + 1) h']
      rw [show n + 1 + posM r x = n + (posM r x + 1) by omega, show j + 1 + posM r x = j + (posM r x + 1) by omega]
theorem modKey {x : Idn} : ∀ (m : Cnt) (j : Nat), x ∈ keys m → (cntE m j).modify (posM m x) (fun e => { e with key := idV x }) = cntE m j
  | [], _, h => by cases h
  | (y, k) :: r, j, h => by
    unfold cntE posM
    by_cases hxy : x = y
    · subst hxy; simp
    · have h' : x ∈ keys r := by
        simp only [keys, List.map_cons, List.mem_cons] at h
        exact h.resolve_left hxy
      rw [if_neg hxy, List.modify_succ_cons, modKey r (j + 1) h']
theorem modVal {x : Idn} {v : Nat} : ∀ (m : Cnt) (j : Nat), x ∈ keys m → (cntE m j).modify (posM m x) (fun e => { e with val := .int .i64 v }) = cntE (setM m x v) j
  | [], _, h => by cases h
  | (y, k) :: r, j, h => by
    unfold cntE posM setM
    by_cases hxy : x = y
    · subst hxy; simp [cntE]
    · have h' : x ∈ keys r := by
        simp only [keys, List.map_cons, List.mem_cons] at h
        exact h.resolve_left hxy
      rw [if_neg hxy, if_neg hxy, List.modify_succ_cons, modVal r (j + 1) h']
theorem bornAt : ∀ (m : Cnt) (j i : Nat), i < m.length → (cntE m j).findIdx? (fun e => (e.born : Int) == ((j + i : Nat) : Int)) = some i
  | [], _, _, h => by cases h
  | (y, k) :: r, j, i, h => by
    unfold cntE
    rw [List.findIdx?_cons]
    cases i with
    | zero => simp
    | succ i =>
      have hne : ((j : Int) == ((j + (i + 1) : Nat) : Int)) = false := by rw [beq_eq_false_iff_ne]; omega
      simp only [hne]
      have := bornAt r (j + 1) i (by simpa using h)
      rw [show j + 1 + i = j + (i + 1) by omega] at this
      rw [this]
      rfl
theorem posM_lt {x : Idn} : ∀ (m : Cnt), x ∈ keys m → posM m x < m.length
  | [], h => by cases h
  | (y, k) :: r, h => by
    unfold posM
    by_cases hxy : x = y
    · rw [if_pos hxy]; simp
    · have h' : x ∈ keys r := by
        simp only [keys, List.map_cons, List.mem_cons] at h
        exact h.resolve_left hxy
      rw [if_neg hxy]
      have := posM_lt r h'
      simp only [List.length_cons]; omega
theorem lookM_no {x : Idn} : ∀ (m : Cnt), x ∉ keys m → lookM m x = 0
  | [], _ => rfl
  | (y, k) :: r, h => by
    simp only [keys, List.map_cons, List.mem_cons, not_or] at h
    unfold lookM
    rw [if_neg h.1]
    exact lookM_no r h.2
theorem room_mem (m : Cnt) (x : Idn) : x ∈ keys (roomM m x) := by
  unfold roomM
  split
  · assumption
  · simp [keys]
theorem look_app {x : Idn} : ∀ m : Cnt, x ∉ keys m → lookM (m ++ [(x, 0)]) x = 0
  | [], _ => by simp [lookM]
  | (y, k) :: r, h => by
    simp only [keys, List.map_cons, List.mem_cons, not_or] at h
    simp only [List.cons_append, lookM, if_neg h.1]
    exact look_app r h.2
theorem look_room (m : Cnt) (x : Idn) : lookM (roomM m x) x = lookM m x := by
  unfold roomM
  split
  · rfl
  · next h => rw [lookM_no m h, look_app m h]
theorem set_len (x : Idn) (v : Nat) : ∀ m : Cnt, (setM m x v).length = m.length
  | [] => rfl
  | (y, k) :: r => by unfold setM; split <;> simp [set_len x v r]
theorem mlook {H : GH} {M clock : Nat} {m : Cnt} (x : Idn) (h : H.get M = some (.map (cntE m 0) clock)) : gLookup Try.prog 163 (.map (some M)) (idV x) false H = some (.int .i64 (lookM m x)) := by
  unfold gLookup
  have z : gZero Try.prog 3 = some (.int .i64 0) := by kernel_rfl
  simp only [Try.underlying163, idKey, if_true, gMap, h, Option.map_some, z]
  by_cases hx : x ∈ keys m
  · simp only [findM_yes m 0 0 hx, Bool.false_eq_true, if_false]
  · simp only [findM_no m 0 0 hx, Bool.false_eq_true, if_false, lookM_no m hx]
    rfl
theorem mentry {H : GH} {M : Nat} {m : Cnt} (x : Idn) (h : H.get M = some (.map (cntE m 0) m.length)) :
    gMapEntryQ Try.prog 163 (.map (some M)) (idV x) H = some (.tuple #[.int .i64 (lookM m x), .int .i64 (posM (roomM m x) x)], H.set M (.map (cntE (roomM m x) 0) (roomM m x).length)) := by
  have z : gZero Try.prog 3 = some (.int .i64 0) := by kernel_rfl
  have he : gMapEntry Try.prog 163 (.map (some M)) (idV x) H = some (.tuple #[.int .i64 (lookM m x), .int .i64 (posM (roomM m x) x)], H.set M (.map (cntE (roomM m x) 0) (roomM m x).length)) := by
    unfold gMapEntry
    simp only [Try.underlying163, gMap, h, idKey, if_true, z]
    by_cases hx : x ∈ keys m
    · have hr : roomM m x = m := by unfold roomM; rw [if_pos hx]
      simp only [findM_yes m 0 0 hx, idSame, if_true, Nat.zero_add, modKey m 0 hx, hr]
    · have hr : roomM m x = m ++ [(x, 0)] := by unfold roomM; rw [if_neg hx]
      have hp : posM (m ++ [(x, 0)]) x = m.length := by
        clear h hr
        induction m with
        | nil => simp [posM]
        | cons y r ih =>
          obtain ⟨y, k⟩ := y
          simp only [keys, List.map_cons, List.mem_cons, not_or] at hx
          simp only [List.cons_append, posM, if_neg hx.1, List.length_cons]
          rw [ih hx.2]
      simp only [findM_no m 0 0 hx, hr, hp, cntE_append, Nat.zero_add, List.length_append, List.length_singleton, lookM_no m hx]
      rfl
  unfold gMapEntryQ
  rw [he]
  simp only [mlook x h, mlook x (GH.get_set_same h), look_room, and_self, if_true]
theorem mstore {H : GH} {M : Nat} {m : Cnt} {x : Idn} (v : Nat) (hx : x ∈ keys m) (h : H.get M = some (.map (cntE m 0) m.length)) :
    gEntryStore (.map (some M)) (.int .i64 (posM m x)) (.int .i64 v) H = some (H.set M (.map (cntE (setM m x v) 0) (setM m x v).length)) := by
  unfold gEntryStore
  have hb := bornAt m 0 (posM m x) (posM_lt m hx)
  rw [Nat.zero_add] at hb
  simp only [gMap, h, hb, modVal m 0 hx, set_len]

/-! ### What the map says -/
structure MI (m : Cnt) (ids : List Idn) : Prop where
  nd : (keys m).Nodup
  val : ∀ e ∈ m, e.2 = ids.count e.1 ∧ 1 ≤ e.2
  all : ∀ x ∈ ids, x ∈ keys m
  sz : m.length ≤ ids.length
theorem look_of {x : Idn} {n : Nat} : ∀ m : Cnt, (keys m).Nodup → (x, n) ∈ m → lookM m x = n
  | [], _, h => by cases h
  | (y, k) :: r, hnd, h => by
    simp only [keys, List.map_cons, List.nodup_cons] at hnd
    unfold lookM
    rcases List.mem_cons.1 h with h | h
    · injection h with h1 h2; rw [if_pos h1, h2]
    · rw [if_neg (fun e : x = y => hnd.1 (e ▸ List.mem_map.2 ⟨(x, n), h, rfl⟩))]
      exact look_of r hnd.2 h
theorem keys_set (x : Idn) (v : Nat) : ∀ m : Cnt, keys (setM m x v) = keys m
  | [] => rfl
  | (y, k) :: r => by
    unfold setM
    split
    · rfl
    · simp only [keys, List.map_cons]
      exact congrArg _ (keys_set x v r)
theorem mem_set {x : Idn} {v : Nat} {e : Idn × Nat} : ∀ m : Cnt, (keys m).Nodup → e ∈ setM m x v → (e.1 = x ∧ e.2 = v) ∨ (e.1 ≠ x ∧ e ∈ m)
  | [], _, h => by cases h
  | (y, k) :: r, hnd, h => by
    simp only [keys, List.map_cons, List.nodup_cons] at hnd
    unfold setM at h
    split at h
    · next hxy =>
      rcases List.mem_cons.1 h with h | h
      · subst h; exact .inl ⟨hxy.symm, rfl⟩
      · refine .inr ⟨fun he => hnd.1 ?_, by simp [h]⟩
        rw [← hxy, ← he]; exact List.mem_map.2 ⟨_, h, rfl⟩
    · next hxy =>
      rcases List.mem_cons.1 h with h | h
      · subst h; exact .inr ⟨Ne.symm hxy, by simp⟩
      · rcases mem_set r hnd.2 h with h | ⟨h1, h2⟩
        · exact .inl h
        · exact .inr ⟨h1, by simp [h2]⟩
theorem MI.look {m : Cnt} {ids : List Idn} (h : MI m ids) (x : Idn) : lookM m x = ids.count x := by
  by_cases hx : x ∈ keys m
  · obtain ⟨e, he, rfl⟩ := List.mem_map.1 hx
    rw [look_of m h.nd (n := e.2) he]
    exact (h.val e he).1
  · rw [lookM_no m hx, List.count_eq_zero.2 fun h' => hx (h.all x h')]
theorem MI.nil : MI [] [] := ⟨by simp [keys], (fun e he => by cases he), (fun x hx => by cases hx), Nat.le_refl _⟩
theorem MI.bump {m : Cnt} {ids : List Idn} (h : MI m ids) (x : Idn) : MI (bumpM m x) (ids ++ [x]) := by
  have hrn : (keys (roomM m x)).Nodup := by
    unfold roomM
    split
    · exact h.nd
    · next hx =>
      rw [keys, List.map_append]
      refine List.nodup_append.2 ⟨h.nd, by simp, fun a ha b hb => ?_⟩
      simp only [List.map_cons, List.map_nil, List.mem_singleton] at hb
      subst hb
      intro e; subst e; exact hx ha
  have hcx : (ids ++ [x]).count x = ids.count x + 1 := by simp
  have hsz : (bumpM m x).length ≤ (ids ++ [x]).length := by
    have := h.sz
    unfold bumpM roomM
    rw [set_len, List.length_append, List.length_singleton]
    split
    · omega
    · rw [List.length_append, List.length_singleton]; omega
  refine ⟨by unfold bumpM; rw [keys_set]; exact hrn, fun e he => ?_, fun y hy => ?_, hsz⟩
  · rcases mem_set _ hrn he with ⟨h1, h2⟩ | ⟨h1, h2⟩
    · rw [h1, h2, hcx, h.look]; omega
    · have hm : e ∈ m := by
        unfold roomM at h2
        split at h2
        · exact h2
        · rcases List.mem_append.1 h2 with h2 | h2
          · exact h2
          · rw [List.mem_singleton] at h2; subst h2; exact absurd rfl h1
      have := h.val e hm
      rw [List.count_append, List.count_singleton]
      have : (x == e.1) = false := by rw [beq_eq_false_iff_ne]; exact Ne.symm h1
      simp only [this, Bool.false_eq_true, if_false, Nat.add_zero]
      exact h.val e hm
  · unfold bumpM
    rw [keys_set]
    rcases List.mem_append.1 hy with hy | hy
    · have := h.all y hy
      unfold roomM
      split
      · exact this
      · rw [keys, List.map_append]; exact List.mem_append_left _ this
    · rw [List.mem_singleton] at hy; subst hy; exact room_mem m y
theorem MI.twice {m : Cnt} {ids : List Idn} (h : MI m ids) : (∃ e ∈ m, 1 < e.2) ↔ ¬ ids.Nodup := by
  rw [List.nodup_iff_count]
  constructor
  · rintro ⟨e, he, h1⟩ hn
    have := hn e.1
    rw [← (h.val e he).1] at this
    omega
  · intro hn
    obtain ⟨x, hx⟩ := Classical.not_forall.1 hn
    have hmem : x ∈ ids := List.count_pos_iff.1 (by omega)
    obtain ⟨e, he, rfl⟩ := List.mem_map.1 (h.all x hmem)
    exact ⟨e, he, by rw [(h.val e he).1]; omega⟩
end Go.Proofs.Ythicilkmjamefaa
/- The program's Check: what it comes to. -/
namespace Go.Proofs.Ythicilkmjamefaa
open Go.Gh
set_option linter.unusedVariables false
set_option linter.unusedSimpArgs false

/-- The tables of which the program's functions are shown. -/
structure Med (t : Tab) : Prop where
  len : t.length ≤ 7
  row : ∀ l ∈ t, l.length ≤ 13
  thr : ∀ l ∈ t, ∀ x ∈ l, x.thr.length ≤ 6
  past : ∀ l ∈ t, ∀ x ∈ l, x.past.length ≤ 6
theorem Small.med {t : Tab} (h : Small t) : Med t := ⟨h.len, fun l hl => by have := h.row l hl; omega, h.thr, h.past⟩
theorem allThr_le13 (t : Tab) (h1 : ∀ l ∈ t, l.length ≤ 13) (h2 : ∀ l ∈ t, ∀ x ∈ l, x.thr.length ≤ 6) : (allThr t).length ≤ 78 * t.length := by
  induction t with
  | nil => simp [allThr]
  | cons a l ih =>
    have := ih (fun x hx => h1 x (by simp [hx])) fun x hx => h2 x (by simp [hx])
    have h3 := h1 a (by simp)
    have h4 := thrs_le a (h2 a (by simp))
    simp only [allThr, List.flatMap_cons, List.length_append, List.length_cons] at this ⊢
    omega
theorem badLp_iff {t : Tab} {n : Nat} {x : LoopD} : badLp t n x ↔ Wrong t x ∨ (n = 0 ∧ x.new = false) := by
  unfold badLp Wrong
  constructor
  · rintro (h | h | h | h | h)
    · exact .inl (.inl h)
    · exact .inl (.inr (.inl h))
    · exact .inr h
    · exact .inl (.inr (.inr (.inl h)))
    · exact .inl (.inr (.inr (.inr h)))
  · rintro ((h | h | h | h) | h)
    · exact .inl h
    · exact .inr (.inl h)
    · exact .inr (.inr (.inr (.inl h)))
    · exact .inr (.inr (.inr (.inr h)))
    · exact .inr (.inr (.inl h))
section
variable {k k' : Nat} {v0 : Value} {t : Tab} {H0 H : GH} {Q : Value × GH → Prop} {M : Nat}
theorem tb_at0 (hs : SlR tyTab H0 v0 t) (hE : Ext H0 H) {kk : IntKind} {i : Nat} (hi : i < t.length) : ∃ p lv, oIndexAddr Try.prog 58 v0 (.int kk i) = some p ∧ gLoad Try.prog 59 p H = some lv ∧ SlR tyLp H0 lv t[i] := by
  obtain ⟨p, cs, h1, h2, lv, rfl, h3⟩ := hs.at u58 (elemOk_size el59) (k := kk) hi
  exact ⟨p, lv, h1, (h2.mono hE).load1 ld59, h3⟩
/-- The names of one loop. -/
theorem pk_l15 (hM : H0.n ≤ M) {x : LoopD} {ids : List Idn} (hids : ids.length ≤ 10000) (hx : x.thr.length ≤ 1000) {n : Nat} (hn : n ≤ 1000) {x21 x22 x23 x27 x28 vT : Value} {sg7 : Value → Value → Value → Value → Value → GH → Go.Gh.M (Value × GH)} {sg10 : Value → Value → Value → Value → Value → Value → Value → Value → GH → Go.Gh.M (Value × GH)}
    (hgo : ∀ m H', Ext H0 H' → H'.get M = some (.map (cntE m 0) m.length) → MI m (ids ++ x.thr) → All (sg10 v0 (.map (some M)) x21 x22 x23 x27 x28 (.int .i64 (n + 1 : Nat)) H') Q) :
    ∀ (r i : Nat) (m : Cnt) (H : GH), i ≤ x.thr.length → x.thr.length - i < r → Ext H0 H → H.get M = some (.map (cntE m 0) m.length) → MI m (ids ++ x.thr.take i) → SlR tyId H vT x.thr →
      All (f25_l15 (C (k + 6)) k' sg7 sg10 r v0 (.map (some M)) x21 x22 x23 x27 x28 (.int .i64 n) vT (.int .i64 x.thr.length) (.int .i64 i) H) Q := by
  intro r
  induction r with
  | zero => intro i m H _ h; omega
  | succ r ih =>
    intro i m H hi hr hE hg hmi hs
    show All (f25_l15b (C (k + 6)) k' sg7 sg10 (f25_l15 (C (k + 6)) k' sg7 sg10 r) v0 (.map (some M)) x21 x22 x23 x27 x28 (.int .i64 n) vT (.int .i64 x.thr.length) (.int .i64 i) H) Q
    unfold f25_l15b
    simp only [bin_lss, onV_s, asB_b, onBool_d]
    by_cases hlt : i < x.thr.length
    · rw [if_pos (by omega)]
      obtain ⟨p, e1, e2, _⟩ := id_at hs (k := .i64) hlt
      obtain ⟨H1, f1, f2, f3, f4⟩ := box (P := Try.prog) (t := 29) (H := H) (v := idV x.thr[i]) (cs := idC x.thr[i]) (row := [(.int .u8 0), (.int .i64 0)]) (e := 29) (gSize_ld ld29) rfl rfl rfl
      simp only [e1, onV_s, id_ld e2, f1, onH_s]
      have hE1 := hE.trans f2
      have hg1 := f2.get_of hg
      have hs1 := hs.mono f2
      have hld : gLoad Try.prog 29 (.pointer (some ⟨H.n, 0, none⟩)) H1 = some (idV x.thr[i]) := id_ld (PtC.of f3)
      simp only [hld, onV_s, mlook _ hg1, bin_add]
      have hcnt : lookM m x.thr[i] ≤ 1000000 := by
        rw [hmi.look]
        have h1 := List.count_le_length (a := x.thr[i]) (l := ids ++ x.thr.take i)
        rw [List.length_append, List.length_take] at h1
        omega
      rw [wrS (by omega)]
      have e0 : oExtract (.tuple #[.int .i64 (lookM m x.thr[i]), .int .i64 (posM (roomM m x.thr[i]) x.thr[i])]) 1 = some (.int .i64 (posM (roomM m x.thr[i]) x.thr[i])) := rfl
      have hg2 := GH.get_set_same (o := .map (cntE (roomM m x.thr[i]) 0) (roomM m x.thr[i]).length) hg1
      simp only [mentry _ hg1, onVH_s, e0, onV_s, mstore _ (room_mem m _) hg2, onH_s]
      unfold f25_r18
      simp only [bin_add, onV_s]
      rw [wrS (by omega)]
      have hMn := GH.get_lt hg1
      refine ih (i + 1) (bumpM m x.thr[i]) _ (by omega) (by omega) ((hE1.set hM hMn _).set hM hMn _) (GH.get_set_same hg2) ?_ (hs1.rows flat_id fun b row e ro hb => ?_)
      · rw [List.take_succ_eq_append_getElem hlt, ← List.append_assoc]
        exact hmi.bump _
      · have hne : M ≠ b := by intro e; subst e; rw [hg1] at hb; cases hb
        rw [GH.get_set_other hne (GH.get_lt hg2), GH.get_set_other hne hMn]
    · rw [if_neg (by omega)]
      simp only [bin_add, onV_s]
      rw [wrS (by omega)]
      rw [List.take_of_length_le (by omega)] at hmi
      exact hgo m H hE hg hmi
/-- One yarn's loops. -/
theorem pk_l10 (hk : 5000 ≤ k) (hk' : 3000 ≤ k') (hM : H0.n ≤ M) (hs : SlR tyTab H0 v0 t) (hmd : Med t) (hbad : Bad t → ∀ H', Ext H0 H' → Q (.int .i64 1, H')) {y : Nat} (hy : y < t.length) {lv x21 x22 : Value} (hlv : SlR tyLp H0 lv t[y]) {sg7 : Value → Value → Value → Value → Value → GH → Go.Gh.M (Value × GH)}
    (hgo : NB t (y + 1) 0 → ∀ m H', Ext H0 H' → H'.get M = some (.map (cntE m 0) m.length) → MI m (allThr (t.take (y + 1))) → All (sg7 v0 (.map (some M)) x21 x22 (.int .i64 (y + 1 : Nat)) H') Q) :
    ∀ (r n : Nat) (m : Cnt) (H : GH), n ≤ t[y].length → t[y].length - n < r → Ext H0 H → H.get M = some (.map (cntE m 0) m.length) → MI m (allThr (t.take y) ++ thrs (t[y].take n)) → NB t y n →
      All (f25_l10 (C (k + 6)) k' sg7 r v0 (.map (some M)) x21 x22 (.int .i64 y) lv (.int .i64 t[y].length) (.int .i64 n) H) Q := by
  intro r
  have hmem : t[y] ∈ t := List.getElem_mem hy
  have hty : t[y]? = some t[y] := List.getElem?_eq_getElem hy
  have h13 := hmd.row _ hmem
  have h7 := hmd.len
  induction r with
  | zero => intro n m H _ h; omega
  | succ r ih =>
    intro n m H hn hr hE hg hmi hnb
    show All (f25_l10b (C (k + 6)) k' sg7 (f25_l10 (C (k + 6)) k' sg7 r) v0 (.map (some M)) x21 x22 (.int .i64 y) lv (.int .i64 t[y].length) (.int .i64 n) H) Q
    unfold f25_l10b
    simp only [bin_lss, onV_s, asB_b, onBool_d]
    by_cases hlt : n < t[y].length
    · rw [if_pos (by omega)]
      obtain ⟨q, g1, g2⟩ := lp_at (hlv.mono hE) (k := .i64) hlt
      obtain ⟨cs, g3, g4, g5, g6⟩ := lp_ld g2
      obtain ⟨H1, f1, f2, f3, f4⟩ := box (P := Try.prog) (t := 62) (H := H) (v := .agg cs.toArray) (cs := cs) (row := [(.int .u8 0), (.bool false), (.slice none 0 0), (.slice none 0 0)]) (e := 62) (gSize_ld ld62) rfl g5 g6
      simp only [g1, g3, onV_s, f1, onH_s]
      have hE1 := hE.trans f2
      have hg1 := f2.get_of hg
      have hp : LpAt H1 (.pointer (some ⟨H.n, 0, none⟩)) t[y][n] := ⟨cs, PtC.of f3, tyLp.mono f2 g4⟩
      clear f1 f3 f4
      revert hp
      generalize (.pointer (some ⟨H.n, 0, none⟩) : Value) = p7
      intro hp
      have hmem2 : t[y][n] ∈ t[y] := List.getElem_mem hlt
      have h6 := hmd.thr _ hmem _ hmem2
      have h6' := hmd.past _ hmem _ hmem2
      have hxn : t[y][n]? = some t[y][n] := List.getElem?_eq_getElem hlt
      obtain ⟨cs', k1, k2, k3, k4⟩ := lp_ld hp
      unfold f25_r12
      simp only [k1, onV_s]
      refine All.callE (right_ok (k := k + 1) (by omega) (hs.mono hE1) k2 (by omega) (by omega)) fun w H2 ⟨hE', b, hw, hiff⟩ => ?_
      simp only at hE' hw
      subst hw
      have hE2 := hE1.trans hE'
      have hg2 := hE'.get_of hg1
      have hp2 := hp.mono hE'
      simp only [not_b, onV_s]
      unfold f25_g12_5
      simp only [asB_b, onBool_i]
      have hisbad : badLp t n t[y][n] → All (some [((.int .i64 1 : Value), H2)]) Q := fun hb => All.mk (hbad ⟨y, _, n, _, hty, hxn, hb⟩ _ hE2)
      cases b with
      | false =>
        simp only [Bool.not_false, if_true]
        refine hisbad (badLp_iff.2 (.inl ?_))
        exact Classical.not_not.1 fun h => by have := hiff.2 h; cases this
      | true =>
        simp only [Bool.not_true, Bool.false_eq_true, if_false]
        have hnw := hiff.1 rfl
        obtain ⟨q0, q1, q2, q3, vT, vP, a0, b0, a1, b1, a2, b2, a3, b3, s1, s2⟩ := lp_f hp2
        have hrest : ¬ (n = 0 ∧ t[y][n].new = false) → All (f25_l15 (C (k + 6)) k' sg7 (f25_l10 (C (k + 6)) k' sg7 r) k' v0 (.map (some M)) x21 x22 (.int .i64 y) lv (.int .i64 t[y].length) (.int .i64 n) vT (.int .i64 t[y][n].thr.length) (.int .i64 (0 : Nat)) H2) Q := fun hnn => by
          have hidl : (allThr (t.take y) ++ thrs (t[y].take n)).length ≤ 10000 := by
            have h1 := allThr_le13 (t.take y) (fun l hl => hmd.row l (List.mem_of_mem_take hl)) fun l hl => hmd.thr l (List.mem_of_mem_take hl)
            have h2 := thrs_le (t[y].take n) fun x hx => hmd.thr _ hmem x (List.mem_of_mem_take hx)
            rw [List.length_append]
            rw [List.length_take] at h1 h2
            omega
          refine pk_l15 (ids := allThr (t.take y) ++ thrs (t[y].take n)) hM hidl (by omega) (by omega) (fun m' H' hE3 hg3 hmi3 => ?_) k' 0 m H2 (by omega) (by omega) hE2 hg2 (by simpa using hmi) s1
          refine ih (n + 1) m' H' (by omega) (by omega) hE3 hg3 ?_ fun y' l j x c1 c2 c3 => ?_
          · rw [thrs_snoc _ hlt, ← List.append_assoc]; exact hmi3
          · rcases c3 with c3 | ⟨c3, c4⟩
            · exact hnb y' l j x c1 c2 (.inl c3)
            · subst c3
              rcases Nat.lt_or_ge j n with h | h
              · exact hnb _ l j x c1 c2 (.inr ⟨rfl, h⟩)
              · have hjn : j = n := by omega
                subst hjn
                rw [hty] at c1
                have c1 := Option.some.inj c1
                subst c1
                rw [hxn] at c2
                have c2 := Option.some.inj c2
                rw [← c2]
                intro hb
                rcases badLp_iff.1 hb with hb | hb
                · exact hnw hb
                · exact hnn hb
        simp only [bin_eql, onV_s]
        unfold f25_g12_8
        simp only [asB_b, onBool_d]
        by_cases h0 : n = 0
        · rw [if_pos (by omega)]
          simp only [a1, b1, onV_s, not_b, asB_b, onBool_i]
          cases hnw' : t[y][n].new with
          | false => simp only [Bool.not_false, if_true]; exact hisbad (badLp_iff.2 (.inr ⟨h0, hnw'⟩))
          | true =>
            simp only [Bool.not_true, Bool.false_eq_true, if_false, a2, b2, onV_s, s1.oLen u26]
            exact hrest fun h => by rw [hnw'] at h; cases h.2
        · rw [if_neg (by omega)]
          simp only [a2, b2, onV_s, s1.oLen u26]
          exact hrest fun h => h0 h.1
    · rw [if_neg (by omega)]
      simp only [bin_add, onV_s]
      rw [wrS (by omega)]
      refine hgo (fun y' l j x c1 c2 c3 => ?_) m H hE hg ?_
      · rcases c3 with c3 | ⟨c3, c4⟩
        · rcases Nat.lt_or_ge y' y with h | h
          · exact hnb y' l j x c1 c2 (.inl h)
          · have hyy : y' = y := by omega
            subst hyy
            refine hnb _ l j x c1 c2 (.inr ⟨rfl, ?_⟩)
            rw [hty] at c1
            have c1 := Option.some.inj c1
            subst c1
            have := (List.getElem?_eq_some_iff.1 c2).1
            omega
        · omega
      · rw [allThr_snoc t hy]
        rw [List.take_of_length_le (l := t[y]) (i := n) (by omega)] at hmi
        exact hmi
theorem pk_l7 (hk : 5000 ≤ k) (hk' : 3000 ≤ k') (hM : H0.n ≤ M) (hs : SlR tyTab H0 v0 t) (hmd : Med t) (hbad : Bad t → ∀ H', Ext H0 H' → Q (.int .i64 1, H'))
    (hgo : ¬ Bad t → ∀ m H', Ext H0 H' → H'.get M = some (.map (cntE m 0) m.length) → MI m (allThr t) → All (f25_r21 (C (k + 6)) k' v0 (.map (some M)) H') Q) :
    ∀ (r y : Nat) (m : Cnt) (H : GH), y ≤ t.length → t.length - y < r → Ext H0 H → H.get M = some (.map (cntE m 0) m.length) → MI m (allThr (t.take y)) → NB t y 0 → All (f25_l7 (C (k + 6)) k' r v0 (.map (some M)) v0 (.int .i64 t.length) (.int .i64 y) H) Q := by
  intro r
  induction r with
  | zero => intro y m H _ h; omega
  | succ r ih =>
    intro y m H hy hr hE hg hmi hnb
    show All (f25_l7b (C (k + 6)) k' (f25_l7 (C (k + 6)) k' r) v0 (.map (some M)) v0 (.int .i64 t.length) (.int .i64 y) H) Q
    unfold f25_l7b
    simp only [bin_lss, onV_s, asB_b, onBool_d]
    by_cases hlt : y < t.length
    · rw [if_pos (by omega)]
      obtain ⟨p, lv, e1, e2, e3⟩ := tb_at0 hs hE (kk := .i64) hlt
      have h13 := hmd.row _ (List.getElem_mem hlt)
      simp only [e1, e2, onV_s, (e3.mono hE).oLen u59]
      refine pk_l10 hk hk' hM hs hmd hbad hlt e3 (fun hnb' m' H' hE' hg' hmi' => ih (y + 1) m' H' (by omega) (by omega) hE' hg' hmi' hnb') k' 0 m H (by omega) (by omega) hE hg ?_ hnb
      simpa [thrs] using hmi
    · rw [if_neg (by omega)]
      refine hgo (fun ⟨y', l, n, x, c1, c2, c3⟩ => ?_) m H hE hg ?_
      · have := (List.getElem?_eq_some_iff.1 c1).1
        exact hnb y' l n x c1 c2 (.inl (by omega)) c3
      · rw [List.take_of_length_le (by omega)] at hmi
        exact hmi
end
end Go.Proofs.Ythicilkmjamefaa
/- The program's Check: the look through the map, the order, and what it all comes to. -/
namespace Go.Proofs.Ythicilkmjamefaa
open Go.Gh
set_option linter.unusedVariables false
set_option linter.unusedSimpArgs false

theorem cntE_mem {e : MapEntry} : ∀ (m : Cnt) (j : Nat), e ∈ cntE m j → j ≤ e.born ∧ e.born < j + m.length ∧ ∃ x n, (x, n) ∈ m ∧ e.val = .int .i64 (n : Nat)
  | [], _, h => by cases h
  | (x, n) :: r, j, h => by
    unfold cntE at h
    rcases List.mem_cons.1 h with h | h
    · subst h
      exact ⟨Nat.le_refl _, by simp, x, n, by simp, rfl⟩
    · obtain ⟨h1, h2, y, k, h3, h4⟩ := cntE_mem r (j + 1) h
      simp only [List.length_cons]
      exact ⟨by omega, by omega, y, k, by simp [h3], h4⟩
theorem cntE_has {x : Idn} {n : Nat} : ∀ (m : Cnt) (j : Nat), (x, n) ∈ m → ∃ e ∈ cntE m j, e.val = .int .i64 (n : Nat)
  | [], _, h => by cases h
  | (y, k) :: r, j, h => by
    unfold cntE
    rcases List.mem_cons.1 h with h | h
    · injection h with h1 h2; subst h2; exact ⟨{ key := idV y, val := .int .i64 (n : Nat), born := j }, by simp, rfl⟩
    · obtain ⟨e, he, hv⟩ := cntE_has r (j + 1) h
      exact ⟨e, by simp [he], hv⟩
theorem cntE_uniq {e e' : MapEntry} : ∀ (m : Cnt) (j : Nat), e ∈ cntE m j → e' ∈ cntE m j → e.born = e'.born → e = e'
  | [], _, h, _, _ => by cases h
  | (x, n) :: r, j, h, h', hb => by
    unfold cntE at h h'
    rcases List.mem_cons.1 h with h | h <;> rcases List.mem_cons.1 h' with h' | h'
    · rw [h, h']
    · have := (cntE_mem r (j + 1) h').1
      rw [h] at hb
      simp only at hb; omega
    · have := (cntE_mem r (j + 1) h).1
      rw [h'] at hb
      simp only at hb; omega
    · exact cntE_uniq r (j + 1) h h' hb
def leftM (m : Cnt) (seen : List Nat) : List MapEntry := (cntE m 0).filter fun e => !seen.contains e.born
theorem leftM_lt {m : Cnt} {seen : List Nat} {e : MapEntry} (he : e ∈ leftM m seen) : (leftM m (seen ++ [e.born])).length < (leftM m seen).length := by
  have h : leftM m (seen ++ [e.born]) = (leftM m seen).filter fun e' => e'.born != e.born := by
    unfold leftM
    rw [List.filter_filter]
    congr 1
    funext e'
    simp only [List.contains_eq_mem, List.mem_append, List.mem_singleton]
    by_cases h1 : e'.born ∈ seen <;> by_cases h2 : e'.born = e.born <;> simp [h1, h2]
  rw [h]
  exact List.length_filter_lt_length_iff_exists.2 ⟨e, he, by simp⟩
section
variable {H : GH} {I M : Nat} {m : Cnt} {seen : List Nat}
theorem next_map (hI : H.get I = some (.mapIter (some M) m.length seen m.length)) (hM : H.get M = some (.map (cntE m 0) m.length)) :
    gNext (.pointer (some ⟨I, 0, none⟩)) false H = some ((if (leftM m seen).isEmpty then [(.tuple #[.bool false], H.set I .dead)] else []) ++
      (leftM m seen).map fun e => (.tuple #[.bool true, e.key, e.val], H.set I (.mapIter (some M) m.length (seen ++ [e.born]) m.length))) := by
  unfold gNext
  simp only [hI, hM]
  have h1 : (!seen.isEmpty && !(cntE m 0).isEmpty && (cntE m 0).all (fun e => decide (e.born ≥ m.length))) = false := by
    cases hm : m with
    | nil => simp [cntE]
    | cons a r =>
      obtain ⟨x, n⟩ := a
      have : ((cntE ((x, n) :: r) 0).all fun e => decide (e.born ≥ ((x, n) :: r).length)) = false := by
        unfold cntE
        simp
      rw [this, Bool.and_false]
  rw [h1]
  simp only [Bool.false_eq_true, if_false]
  have ho : ((cntE m 0).filter fun e => !seen.contains e.born).filter (fun e => decide (e.born < m.length)) = leftM m seen := by
    unfold leftM
    rw [List.filter_eq_self]
    intro e he
    have := (cntE_mem m 0 (List.mem_filter.1 he).1).2.1
    simp; omega
  have hn : ((cntE m 0).filter fun e => !seen.contains e.born).filter (fun e => decide (e.born ≥ m.length)) = [] := by
    rw [List.filter_eq_nil_iff]
    intro e he
    have := (cntE_mem m 0 (List.mem_filter.1 he).1).2.1
    simp; omega
  rw [ho, hn, List.append_nil]
theorem entry_map {e : MapEntry} (he : e ∈ cntE m 0) (hI : H.get I = some (.mapIter (some M) m.length (seen ++ [e.born]) m.length)) (hM : H.get M = some (.map (cntE m 0) m.length)) :
    gEntry (.pointer (some ⟨I, 0, none⟩)) H = some (.tuple #[e.key, e.val]) := by
  unfold gEntry
  simp only [hI, List.getLast?_concat, hM]
  rw [if_neg (by simp)]
  have hf : ((cntE m 0).find? fun e' => e'.born == e.born) = some e := by
    cases hx : (cntE m 0).find? fun e' => e'.born == e.born with
    | none =>
      have := List.find?_eq_none.1 hx e he
      simp at this
    | some e' =>
      have h1 := List.find?_some hx
      have h2 := List.mem_of_find?_eq_some hx
      rw [cntE_uniq m 0 h2 he (by simpa using h1)]
  rw [hf]
end
theorem list6 {α : Type} {l : List α} (h : l.length = 6) : ∃ a b c d e f, l = [a, b, c, d, e, f] := by
  match l, h with
  | [a, b, c, d, e, f], _ => exact ⟨a, b, c, d, e, f, rfl⟩
theorem sum_full {t : Tab} {D : List Nat} (hR : Reach t D) (ht : t.length = 6) : sumD D = cnt t ↔ ∀ y l, y < 6 → t[y]? = some l → D.getD (y + 1) 0 = l.length := by
  have hle := hR.le
  obtain ⟨a, b, c, d, e, f, rfl⟩ := list6 ht
  have h0 := hle 0 a (by omega) rfl
  have h1 := hle 1 b (by omega) rfl
  have h2 := hle 2 c (by omega) rfl
  have h3 := hle 3 d (by omega) rfl
  have h4 := hle 4 e (by omega) rfl
  have h5 := hle 5 f (by omega) rfl
  simp only [Nat.zero_add, Nat.reduceAdd] at h0 h1 h2 h3 h4 h5
  unfold sumD cnt
  simp only [List.map_cons, List.map_nil, List.sum_cons, List.sum_nil]
  constructor
  · intro h y l hy hl
    match y, hy with
    | 0, _ => have hl := Option.some.inj hl; subst hl; simp only [Nat.zero_add]; omega
    | 1, _ => have hl := Option.some.inj hl; subst hl; simp only [Nat.reduceAdd]; omega
    | 2, _ => have hl := Option.some.inj hl; subst hl; simp only [Nat.reduceAdd]; omega
    | 3, _ => have hl := Option.some.inj hl; subst hl; simp only [Nat.reduceAdd]; omega
    | 4, _ => have hl := Option.some.inj hl; subst hl; simp only [Nat.reduceAdd]; omega
    | 5, _ => have hl := Option.some.inj hl; subst hl; simp only [Nat.reduceAdd]; omega
  · intro h
    have g0 := h 0 a (by omega) rfl
    have g1 := h 1 b (by omega) rfl
    have g2 := h 2 c (by omega) rfl
    have g3 := h 3 d (by omega) rfl
    have g4 := h 4 e (by omega) rfl
    have g5 := h 5 f (by omega) rfl
    simp only [Nat.zero_add, Nat.reduceAdd] at g0 g1 g2 g3 g4 g5
    omega
theorem cnt_le (t : Tab) (h : ∀ l ∈ t, l.length ≤ 13) : cnt t ≤ 13 * t.length := by
  induction t with
  | nil => simp [cnt]
  | cons a l ih =>
    have := ih fun x hx => h x (by simp [hx])
    have h3 := h a (by simp)
    simp only [cnt, List.map_cons, List.sum_cons, List.length_cons] at this ⊢
    omega
section
variable {k k' : Nat} {v0 : Value} {t : Tab} {H0 H : GH} {Q : Value × GH → Prop} {I M : Nat} {m : Cnt}
theorem pk_l22 (hI0 : H0.n ≤ I) (hIM : I ≠ M) (h8 : (∃ e ∈ m, 1 < e.2) → ∀ H', Ext H0 H' → Q (.int .i64 8, H')) (hgo : (¬ ∃ e ∈ m, 1 < e.2) → ∀ H', Ext H0 H' → All (f25_r26 (C k) k' v0 H') Q) :
    ∀ (r : Nat) (seen : List Nat) (H : GH), (leftM m seen).length < r → Ext H0 H → H.get I = some (.mapIter (some M) m.length seen m.length) → H.get M = some (.map (cntE m 0) m.length) →
      (∀ e ∈ cntE m 0, seen.contains e.born = true → ∀ n : Nat, e.val = .int .i64 n → n ≤ 1) → All (f25_l22 (C k) k' r v0 (.pointer (some ⟨I, 0, none⟩)) H) Q := by
  intro r
  induction r with
  | zero => intro seen H h; omega
  | succ r ih =>
    intro seen H hr hE hI hM hall
    show All (f25_l22b (C k) k' (f25_l22 (C k) k' r) v0 (.pointer (some ⟨I, 0, none⟩)) H) Q
    unfold f25_l22b onNext
    simp only
    have hIn := GH.get_lt hI
    refine All.bind' (R := fun x => (x = (.tuple #[.bool false], H.set I .dead) ∧ leftM m seen = []) ∨ ∃ e ∈ leftM m seen, x = (.tuple #[.bool true, e.key, e.val], H.set I (.mapIter (some M) m.length (seen ++ [e.born]) m.length))) ⟨_, next_map hI hM, fun x hx => ?_⟩ fun x hx => ?_
    · rcases List.mem_append.1 hx with hx | hx
      · split at hx
        · next he =>
          rw [List.mem_singleton] at hx
          exact .inl ⟨hx, by simpa using he⟩
        · cases hx
      · obtain ⟨e, he, h⟩ := List.mem_map.1 hx
        exact .inr ⟨e, he, h.symm⟩
    · rcases hx with ⟨rfl, hl⟩ | ⟨e, he, rfl⟩
      · have e0 : oExtract (.tuple #[.bool false]) 0 = some (.bool false) := rfl
        simp only [e0, onV_s, asB_b, onBool_f]
        refine hgo (fun ⟨⟨x, n⟩, hx, hn⟩ => ?_) _ (hE.set hI0 hIn _)
        obtain ⟨e, he, hv⟩ := cntE_has m 0 hx
        have hs : seen.contains e.born = true := by
          cases hc : seen.contains e.born with
          | true => rfl
          | false =>
            have : e ∈ leftM m seen := List.mem_filter.2 ⟨he, by rw [hc]; rfl⟩
            rw [hl] at this; cases this
        have := hall e he hs n hv
        simp only at hn
        omega
      · have hem : e ∈ cntE m 0 := (List.mem_filter.1 he).1
        obtain ⟨_, _, x, n, hxn, hv⟩ := cntE_mem m 0 hem
        have e0 : oExtract (.tuple #[.bool true, e.key, e.val]) 0 = some (.bool true) := rfl
        have e1 : oExtract (.tuple #[e.key, .int .i64 (n : Int)]) 1 = some (.int .i64 n) := rfl
        have hI' : (H.set I (.mapIter (some M) m.length (seen ++ [e.born]) m.length)).get I = _ := GH.get_set_same hI
        have hM' : (H.set I (.mapIter (some M) m.length (seen ++ [e.born]) m.length)).get M = _ := (GH.get_set_other hIM hIn).trans hM
        have hent := entry_map hem hI' hM'
        rw [hv] at hent
        simp only [e0, onV_s, asB_b, onBool_t, hent, e1, bin_gtr, onBool_d]
        have hE' := hE.set hI0 hIn (.mapIter (some M) m.length (seen ++ [e.born]) m.length)
        by_cases h1 : 1 < n
        · rw [if_pos (by omega)]
          exact All.mk (h8 ⟨_, hxn, h1⟩ _ hE')
        · rw [if_neg (by omega)]
          refine ih (seen ++ [e.born]) _ (by have := leftM_lt he; omega) hE' hI' hM' fun e' he' hs n' hv' => ?_
          simp only [List.contains_eq_mem, decide_eq_true_eq, List.mem_append, List.mem_singleton] at hs
          rcases hs with hs | hs
          · exact hall e' he' (by simpa using hs) n' hv'
          · rw [cntE_uniq m 0 he' hem hs, hv] at hv'
            injection hv' with _ hv'
            omega
theorem pk_r26 (hk : 3000 ≤ k) (hb : ¬ Bad t) (hmd : Med t) (ht : t.length = 6) (hs : SlR tyTab H0 v0 t) (hE : Ext H0 H) (h0 : Full t → ∀ H', Ext H0 H' → Q (.int .i64 0, H')) (h6 : ¬ Full t → ∀ H', Ext H0 H' → Q (.int .i64 6, H')) :
    All (f25_r26 (C (k + 5)) k' v0 H) Q := by
  unfold f25_r26
  have hcl := cnt_le t hmd.row
  refine All.callE (order_ok (k := k) hk hb hmd.row (fun l hl x hx => by have h1 := hmd.thr l hl x hx; have h2 := hmd.past l hl x hx; omega) ht (hs.mono hE)) fun w H2 h => ?_
  obtain ⟨hE2, D, ids, hR, hS, hids, hc⟩ := h
  have hE2 : Ext H H2 := hE2
  have hc : Cl tyId 29 H H2 w ids := hc
  have hE' := hE.trans hE2
  simp only [hc.oLen u26, onV_s]
  refine All.callE (count_ok (k := k + 4) (by omega) (hs.mono hE') (by omega) (by omega)) fun w' H3 hw => ?_
  injection hw with hw hH
  subst hw; subst hH
  simp only [bin_neq, onV_s, asB_b, onBool_d]
  have hiff := (sum_full hR ht).trans (full_iff hR hS).symm
  by_cases hf : Full t
  · have he : ((ids.length : Nat) : Int) = ((cnt t : Nat) : Int) := by rw [hids, hiff.2 hf]
    rw [if_neg (fun h => h he)]
    exact All.mk (h0 hf _ hE')
  · have he : ((ids.length : Nat) : Int) ≠ ((cnt t : Nat) : Int) := fun h => hf (hiff.1 (by omega))
    rw [if_pos he]
    exact All.mk (h6 hf _ hE')
theorem check_ok (hk : 6000 ≤ k) (hs : SlR tyTab H v0 t) (hmd : Med t) : All (C (k + 7) (.func (.func 25) #[] #[]) [v0] H) fun r => Ext H r.2 ∧ r.1 = .int .i64 (chk t) := by
  rw [C_func T25, f25_eq]
  unfold f25_sh
  have hcl := cnt_le t hmd.row
  have h7 := hmd.len
  simp only [hs.oLen u58, onV_s, bin_neq, asB_b, onBool_d]
  by_cases h6 : t.length = 6
  · rw [if_neg (by omega)]
    refine All.callE (count_ok (k := k + 5) (by omega) hs (by omega) (by omega)) fun w H1 hw => ?_
    injection hw with hw hH
    subst hw; subst hH
    simp only [bin_gtr, onV_s, asB_b, onBool_d]
    rw [if_neg (by omega)]
    refine pk_l7 (M := H1.n) (t := t) (Q := fun r => Ext H1 r.2 ∧ r.1 = .int .i64 (chk t)) (by omega) (by omega) (Nat.le_refl _) hs hmd (fun hb H' hE' => ⟨hE', ?_⟩) (fun hnb m H' hE' hg hmi => ?_) (k + 6) 0 [] (H1.push (.map [] 0)) (by omega) (by omega) (.push _ _) GH.get_push_new .nil fun y' l n x c1 c2 c3 => by omega
    · unfold chk; rw [if_neg (by omega), if_pos hb]
    · unfold f25_r21
      have hr : gRange Try.prog 163 (.map (some H1.n)) H' = some (.pointer (some ⟨H'.n, 0, none⟩), H'.push (.mapIter (some H1.n) m.length [] m.length)) := by
        unfold gRange
        simp only [Try.underlying163, hg]
      simp only [hr, onVH_s]
      have hg2 := (Ext.push H' (.mapIter (some H1.n) m.length [] m.length)).get_of hg
      have hMn := GH.get_lt hg
      refine pk_l22 (I := H'.n) (M := H1.n) (m := m) (H0 := H1) (Q := fun r => Ext H1 r.2 ∧ r.1 = .int .i64 (chk t)) hE'.n (by omega) (fun h8 H2 hE2 => ⟨hE2, ?_⟩) (fun hn8 H2 hE2 => ?_) (k + 6) [] _ ?_ (hE'.push' _) GH.get_push_new hg2 (fun e he h => by simp at h)
      · unfold chk; rw [if_neg (by omega), if_neg hnb, if_pos (hmi.twice.1 h8)]
      · have hnd : (allThr t).Nodup := Classical.not_not.1 fun h => hn8 (hmi.twice.2 h)
        refine pk_r26 (k := k + 1) (by omega) hnb hmd h6 hs hE2 (fun hf H3 hE3 => ⟨hE3, ?_⟩) fun hf H3 hE3 => ⟨hE3, ?_⟩
        · unfold chk; rw [if_neg (by omega), if_neg hnb, if_neg (fun h => h hnd), if_pos hf]
        · unfold chk; rw [if_neg (by omega), if_neg hnb, if_neg (fun h => h hnd), if_neg hf]
      · have h1 : (leftM m []).length ≤ m.length := by unfold leftM; have := List.length_filter_le (fun e : MapEntry => !([] : List Nat).contains e.born) (cntE m 0); rw [cntE_len] at this; exact this
        have h2 := hmi.sz
        have h3 := allThr_le13 t hmd.row hmd.thr
        omega
  · rw [if_pos (by omega)]
    refine All.mk ⟨.refl _, ?_⟩
    unfold chk; rw [if_pos h6]
end
end Go.Proofs.Ythicilkmjamefaa
