/- The ghost machine: arguments that lie in the world, laid as ghost rows that are only read. -/
import Derived.Test.YthicilkmjamefaaGnData
import Derived.ChangeArms
namespace Go.Gh
set_option linter.unusedVariables false
set_option linter.unusedSimpArgs false

/-- A datum of the type, wherever it lies, can be laid as a ghost one. -/
def Opens {α : Type} (P : Program) (A : Ty α) (t : TypeId) : Prop :=
  ∀ {D : Type} (enc : TypeId × Value → D) (W : World) (fuel : Nat) (cs : List Value) (x : DataW D × List MemPlace), DataW.trod enc P W 0 (fun _ => true) true fuel t cs = some x →
    ∀ (m : PM) (H : GH), Rel P W.heap.size m H W → ∃ m' H' gs y, PM.le m m' ∧ Ext H H' ∧ Rel P W.heap.size m' H' W ∧ VRs m' gs cs ∧ A.rep H' gs y

section
variable {P : Program} {base : Nat} {m : PM} {H : GH} {w : World}
/-- A ghost block that stands for nothing. -/
theorem Rel.push_free (h : Rel P base m H w) (o : GObj) : Rel P base m (H.push o) w :=
  ⟨fun b p hb => by obtain ⟨o', r, h1, h2, h3⟩ := h.obj b p hb; exact ⟨o', r, (GH.get_push_old (h.id_lt hb)).trans h1, h2, h3⟩,
    fun b c p q hne hb hc => by rw [GH.get_push_old (h.id_lt hb), GH.get_push_old (h.id_lt hc)]; exact h.inj b c p q hne hb hc⟩
/-- A ghost row that is only read, over cells that lie in the world. -/
theorem Rel.push_ro (h : Rel P base m H w) {B off sz : Nat} {arr : Array Value} {t : TypeId} {fr : Nat × Nat} (hB : w.heap[B]? = some (.cells arr t fr)) (hold : B < base) {gs : List Value} {e : TypeId}
    (hc : ∀ (i : Nat) (u : Value), gs[i]? = some u → ∃ u', arr[off + i]? = some u' ∧ VR m u u') :
    Rel P base (m.put H.n ⟨B, off, 0, sz, false⟩) (H.push (.row gs e true)) w := by
  have hle := h.put_le ⟨B, off, 0, sz, false⟩
  refine ⟨fun b q hb => ?_, fun b c q s hne hb hc' ab ac => ?_⟩
  · by_cases eb : b = H.n
    · subst eb
      rw [PM.put_same] at hb
      injection hb with hb
      subst hb
      exact ⟨_, _, GH.get_push_new, hB, .row rfl (fun _ => hold) (fun hf => by cases hf) fun i u hu => by obtain ⟨u', h1, h2⟩ := hc i u hu; exact ⟨u', h1, h2.mono hle⟩⟩
    · rw [PM.put_other m _ eb] at hb
      obtain ⟨o', r', h1, h2, h3⟩ := h.obj b q hb
      exact ⟨o', r', (GH.get_push_old (GH.get_lt h1)).trans h1, h2, h3.mono hle⟩
  · by_cases eb : b = H.n
    · subst eb
      rw [GH.get_push_new] at ab
      cases ab
    · by_cases ec : c = H.n
      · subst ec
        rw [GH.get_push_new] at ac
        cases ac
      · rw [PM.put_other m _ eb] at hb
        rw [PM.put_other m _ ec] at hc'
        rw [GH.get_push_old (h.id_lt hb)] at ab
        rw [GH.get_push_old (h.id_lt hc')] at ac
        exact h.inj b c q s hne hb hc' ab ac
end

section
variable {P : Program} {α : Type} {A : Ty α}
/-- A number. -/
theorem opens_int {k : IntKind} {t : TypeId} {A : Ty Int} (ht : P.underlying t = some (.int k)) (hA : ∀ H n, (Lit.int k n).wf = true → A.rep H [.int k n] n) : Opens P A t := by
  intro D enc W fuel cs x h m H hR
  obtain ⟨n, rfl, rfl, hwf⟩ := DataW.trod_int ht h
  exact ⟨m, H, [.int k n], n, .refl m, .refl H, hR, .cons (.int k n) .nil, hA H n hwf⟩

theorem cells_of {w : World} {a : Addr} {n : Nat} {cs : List Value} (h : w.cells? 0 a n = some cs) : cs.length = n ∧ ∀ i, i < n → w.cell? (a.add i) = cs[i]? := by
  unfold World.cells? at h
  rw [if_pos (Nat.zero_le _)] at h
  refine ⟨by simpa using mapM_some_length h, fun i hi => ?_⟩
  have := mapM_some_get h i i (by simp [hi])
  exact this
theorem cell_blk {w : World} {a : Addr} {u : Value} (h : w.cell? a = some u) : a.spot = none ∧ ∃ arr t fr, w.heap[a.block]? = some (.cells arr t fr) ∧ arr[a.off]? = some u := by
  unfold World.cell? at h
  split at h
  · next c t fr hc =>
    split at h
    · cases h
    · next hs => exact ⟨by simpa using hs, c, t, fr, hc, h⟩
  · cases h

/-- A slice. -/
theorem opens_slice {t e : TypeId} (ht : P.underlying t = some (.slice e)) (hsz : P.cellsOf e = A.sz) (hg : gSize P e = some A.sz) (hpos : 0 < A.sz) (hA : Opens P A e) {B : Ty (List α)} (hB : ∀ H v xs, SlR A H v xs → B.rep H [v] xs) : Opens P B t := by
  intro D enc W fuel cs x h m H hR
  rcases DataW.trod_slice ht h with ⟨rfl, rfl⟩ | ⟨a, len, cap, elems, rest, n, _, rfl, rfl, _, hlc, hcm, hel, hget, hspare, _⟩
  · exact ⟨m, H, [.slice none 0 0], [], .refl m, .refl H, hR, .cons (.sliceNil 0 0) .nil, hB _ _ _ SlR.nil⟩
  rw [hsz] at hget hspare
  -- the elements, one after the other
  have key : ∀ k, k ≤ len → ∃ m' H' gs ys us, PM.le m m' ∧ Ext H H' ∧ Rel P W.heap.size m' H' W ∧ VRs m' gs us ∧ CellsR A H' gs ys ∧ ys.length = k ∧ us.length = k * A.sz ∧ ∀ i, i < k * A.sz → W.cell? (a.add i) = us[i]? := by
    intro k
    induction k with
    | zero => intro _; exact ⟨m, H, [], [], [], .refl m, .refl H, hR, .nil, .nil, rfl, by simp, fun i hi => by omega⟩
    | succ k ih =>
      intro hk
      obtain ⟨m1, H1, gs, ys, us, g1, g2, g3, g4, g5, g6, g7, g8⟩ := ih (by omega)
      have hk1 := hget k (by omega)
      have hlt : k < elems.length := by omega
      rw [List.getElem?_eq_getElem hlt, Option.bind_eq_some_iff] at hk1
      obtain ⟨c1, hc1, ht1⟩ := hk1
      obtain ⟨hcl, hcc⟩ := cells_of hc1
      obtain ⟨m2, H2, gs2, y, q1, q2, q3, q4, q5⟩ := hA enc W n c1 _ ht1 m1 H1 g3
      refine ⟨m2, H2, gs ++ gs2, ys ++ [y], us ++ c1, g1.trans q1, g2.trans q2, q3, (g4.mono q1).append q4, (g5.mono q2).append (.one1 q5), by simp [g6], by rw [List.length_append, g7, hcl, Nat.succ_mul], fun i hi => ?_⟩
      rcases Nat.lt_or_ge i (k * A.sz) with hlt | hge
      · rw [g8 i hlt, List.getElem?_append_left (by omega)]
      · rw [List.getElem?_append_right (by omega), g7]
        rw [Nat.succ_mul] at hi
        rw [← hcc (i - k * A.sz) (by omega)]
        congr 1
        unfold Addr.add
        by_cases h0 : k * A.sz = 0
        · simp [h0]
        · rw [if_neg (by omega : ¬ i = 0), if_neg h0]
          by_cases h1 : i - k * A.sz = 0
          · rw [if_pos h1]; congr 1; omega
          · rw [if_neg h1]; congr 1; simp only; omega
  obtain ⟨m1, H1, gs, ys, us, g1, g2, g3, g4, g5, g6, g7, g8⟩ := key len (Nat.le_refl _)
  rcases Nat.eq_zero_or_pos cap with hc0 | hcp
  · -- it leads nowhere
    have hl0 : len = 0 := by omega
    subst hc0
    subst hl0
    have hys : ys = [] := List.length_eq_zero_iff.1 g6
    subst hys
    refine ⟨m1, H1.push (.row [] e true), [.slice (some ⟨H1.n, 0, none⟩) 0 0], [], g1, g2.push' _, g3.push_free _, .cons (.sliceD _ _ _) .nil, hB _ _ _ (.inr ⟨H1.n, 0, 0, [], e, true, [], rfl, GH.get_push_new, by simp, rfl, .nil⟩)⟩
  · -- the block is there
    have hcell0 : ∃ u, W.cell? (a.add 0) = some u := by
      rcases Nat.eq_zero_or_pos len with hl0 | hlp
      · obtain ⟨hrl, hrj⟩ := hspare rfl
        have h0 := hrj 0 (by omega)
        rw [List.getElem?_eq_getElem (by omega), Option.bind_eq_some_iff] at h0
        obtain ⟨c1, hc1, _⟩ := h0
        obtain ⟨hcl, hcc⟩ := cells_of hc1
        have := hcc 0 hpos
        rw [hl0, Nat.zero_add, Nat.zero_mul] at this
        exact ⟨c1[0], by rw [show (a.add 0).add 0 = a.add 0 from rfl] at this; rw [this, List.getElem?_eq_getElem (by omega)]⟩
      · have hp : 0 < len * A.sz := Nat.mul_pos hlp hpos
        exact ⟨us[0], by rw [g8 0 hp, List.getElem?_eq_getElem (by omega)]⟩
    obtain ⟨u0, hu0⟩ := hcell0
    obtain ⟨hspot, arr, tt, fr, hblk, _⟩ := cell_blk (a := a) hu0
    have hlt : a.block < W.heap.size := (Array.getElem?_eq_some_iff.1 hblk).1
    obtain ⟨B, off, spot⟩ := a
    simp only at hspot hblk hlt
    subst hspot
    have hro := g3.push_ro (sz := A.sz) (off := off) (gs := gs) (e := e) hblk hlt fun i u hu => by
      obtain ⟨u', h1, h2⟩ := g4.get? hu
      refine ⟨u', ?_, h2⟩
      have hi : i < us.length := (List.getElem?_eq_some_iff.1 h1).1
      have h3 := g8 i (by omega)
      rw [h1] at h3
      obtain ⟨_, arr', t', fr', h4, h5⟩ := cell_blk h3
      have e1 : (Addr.add ⟨B, off, none⟩ i).block = B := by unfold Addr.add; split <;> rfl
      have e2 : (Addr.add ⟨B, off, none⟩ i).off = off + i := by unfold Addr.add; split <;> simp_all
      rw [e1, hblk] at h4
      injection h4 with h4
      injection h4 with h4 _ _
      subst h4
      rw [e2] at h5
      exact h5
    have hgl := g5.length
    refine ⟨m1.put H1.n ⟨B, off, 0, A.sz, false⟩, H1.push (.row gs e true), [.slice (some ⟨H1.n, 0, none⟩) ys.length (loose + A.sz)], ys, g1.trans (g3.put_le _), g2.push' _, hro, .cons ?_ .nil, hB _ _ _ (.inr ⟨H1.n, 0, _, gs, e, true, gs, rfl, GH.get_push_new, by omega, by simp, g5.mono (.push _ _)⟩)⟩
    rw [g6]
    exact .sliceL (p := ⟨B, off, 0, A.sz, false⟩) 0 off len (loose + A.sz) cap (PM.put_same _ _ _) rfl hlc (fun _ => rfl) (fun hf => by cases hf)
end
end Go.Gh
