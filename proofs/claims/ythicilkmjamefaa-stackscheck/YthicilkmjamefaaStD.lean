/- The stacks' functions, on: the names of all loops. -/
import Derived.Test.YthicilkmjamefaaStC
namespace Go.Proofs.Ythicilkmjamefaa
open Go.Gh
set_option linter.unusedVariables false
set_option linter.unusedSimpArgs false

theorem flatId : tyId.Flat := fun _ _ _ _ h => h
theorem all44 (k : Nat) (vF vB : Value) (H : GH) : Ev (C (k + 1) (.func (.func 44) #[] #[]) [.agg #[vF, vB]] H) fun r => r.1 = .func (.func 117) #[] #[.pointer (some ⟨H.n, 0, none⟩)] ∧ r.2 = H.push (.row [vF, vB] 24 false) := by
  rw [C_func T44, f44_eq]
  unfold f44_sh
  exact Ev.mk ⟨rfl, rfl⟩

/-- What stands while the names are gathered: H the heap at the call. -/
structure NamI (H : GH) (L : Nat) (tm : List Value) (vF vB : Value) (front back : List (List Idn)) (D : List (List Idn)) (H' : GH) : Prop where
  ext : Ext H H'
  loop : H'.get L = some (.loop .ready none tm [8, 9] (fAt Try.f45 [1, 1, 0, 1, 0, 0]) (fAt Try.f45 [1, 1, 0, 1, 0, 1]))
  row : H'.get (L + 1) = some (.row [vF, vB] 22 false)
  box : ∃ v, H'.get (H.n + 1) = some (.row [v] 26 false) ∧ Own tyId 29 H H' v D.flatten ∧ ∀ b, blkOf v = some b → L + 1 < b

theorem names_step {k : Nat} {H : GH} {L : Nat} {p0 q1 q2 v1 v2 : Value} {tm : List Value} {vF vB : Value} {front back : List (List Idn)} (hL : L = H.n + 3)
    (htm : tm = [p0, q1, q2, .pointer (some ⟨H.n + 1, 0, none⟩), undef, undef, v1, v2, undef, undef, undef, undef, undef, undef]) (hlen : (front.take 40 ++ back.take 40).flatten.length ≤ 1000000000) :
    StepOk (k + 1) (.func (.yield L) #[] #[]) (front.take 40 ++ back.take 40) (NamI H L tm vF vB front back) (fun _ => False) := by
  intro D x v H' nv hpre hI hv
  rw [C_yield hI.loop rfl]
  subst htm
  show Ev (gCode Try.prog (C k) k (fAt Try.f45 [1, 1, 0, 1, 0, 0]) [p0, q1, q2, .pointer (some ⟨H.n + 1, 0, none⟩), undef, undef, v1, v2, nv, v, undef, undef, undef, undef] H' (hBegin Try.prog (C k) k L (fAt Try.f45 [1, 1, 0, 1, 0, 1]))) _
  rw [f45_R3_eq]
  unfold f45_R3
  rw [onReady_s hI.loop]
  have hLn := GH.get_lt hI.loop
  obtain ⟨w, hbox, hown, hblk⟩ := hI.box
  have hE1 : Ext H (H'.set L (.loop .busy none [p0, q1, q2, .pointer (some ⟨H.n + 1, 0, none⟩), undef, undef, v1, v2, undef, undef, undef, undef, undef, undef] [8, 9] (fAt Try.f45 [1, 1, 0, 1, 0, 0]) (fAt Try.f45 [1, 1, 0, 1, 0, 1]))) := hI.ext.set (by omega) hLn _
  have hL1 : (H'.set L (.loop .busy none [p0, q1, q2, .pointer (some ⟨H.n + 1, 0, none⟩), undef, undef, v1, v2, undef, undef, undef, undef, undef, undef] [8, 9] (fAt Try.f45 [1, 1, 0, 1, 0, 0]) (fAt Try.f45 [1, 1, 0, 1, 0, 1]))).get L = _ := GH.get_set_same hI.loop
  have hO1 : ∀ b, b ≠ L → (H'.set L (.loop .busy none [p0, q1, q2, .pointer (some ⟨H.n + 1, 0, none⟩), undef, undef, v1, v2, undef, undef, undef, undef, undef, undef] [8, 9] (fAt Try.f45 [1, 1, 0, 1, 0, 0]) (fAt Try.f45 [1, 1, 0, 1, 0, 1]))).get b = H'.get b := fun b hb => GH.get_set_other (Ne.symm hb) hLn
  have hn1 : (H'.set L (.loop .busy none [p0, q1, q2, .pointer (some ⟨H.n + 1, 0, none⟩), undef, undef, v1, v2, undef, undef, undef, undef, undef, undef] [8, 9] (fAt Try.f45 [1, 1, 0, 1, 0, 0]) (fAt Try.f45 [1, 1, 0, 1, 0, 1]))).n = H'.n := rfl
  revert hE1 hL1 hO1 hn1
  generalize (H'.set L (.loop .busy none [p0, q1, q2, .pointer (some ⟨H.n + 1, 0, none⟩), undef, undef, v1, v2, undef, undef, undef, undef, undef, undef] [8, 9] (fAt Try.f45 [1, 1, 0, 1, 0, 0]) (fAt Try.f45 [1, 1, 0, 1, 0, 1]))) = H1
  intro hE1 hL1 hO1 hn1
  have hbox1 : H1.get (H.n + 1) = some (.row [w] 26 false) := (hO1 _ (by omega)).trans hbox
  have hld := (PtC.of hbox1).load1 ld26
  simp only [hld, onV_s]
  have hown1 : Own tyId 29 H H1 w D.flatten := hown.keep fun b hb => hO1 b (by have := hblk b hb; omega)
  have hv1 : SlR tyId H1 v x := hv.rows flatId fun b row e ro hb => hO1 b (by rintro rfl; rw [hI.loop] at hb; cases hb)
  obtain ⟨new, hf, hc⟩ := hv1.first
  have hxl : D.flatten.length + x.length ≤ 1000000000 := by
    obtain ⟨rest, hr⟩ := hpre
    rw [← hr] at hlen
    simp only [List.flatten_append, List.length_append, List.flatten_cons, List.flatten_nil, List.append_nil] at hlen
    omega
  obtain ⟨w', H2, ha, hE2, hown2, hn2, hk2, hb2⟩ := Own.append hE1 hown1 u26 u26 el29 hv1.val hf (hc.flat flatId) hxl
  simp only [ha, onVH_s]
  have hbn : H.n + 1 < H1.n := GH.get_lt hbox1
  have hbox2 : H2.get (H.n + 1) = some (.row [w] 26 false) := (hk2 _ hbn (fun e => by have := hblk _ e; omega)).trans hbox1
  obtain ⟨s1, s2, s3⟩ := hown2.cell
  rw [store_row (t := 26) (v := w') hbox2 gs26 rfl s1 s2]
  simp only [onH_s, s3]
  have hL2 : H2.get L = _ := (hk2 L (by omega) (fun e => by have := hblk _ e; omega)).trans hL1
  have hL3 : (H2.set (H.n + 1) (.row [w'] 26 false)).get L = _ := (GH.get_set_other (by omega) (by omega)).trans hL2
  rw [hRound_n hL3]
  have hblk' : ∀ b, blkOf w' = some b → L + 1 < b := fun b hb => by
    rcases hb2 b hb with h | h
    · have := GH.get_lt hI.row; omega
    · exact hblk b h
  refine Ev.mk (.inl ⟨rfl, ⟨?_, ?_, ?_, w', ?_, ?_, hblk'⟩⟩)
  · exact ((hE2.set (by omega) (by omega) _).set (by omega) (by rw [GH.set_n]; omega) _)
  · exact GH.get_set_same hL3
  · rw [GH.get_set_other (by omega) (by rw [GH.set_n]; omega), GH.get_set_other (by omega) (by omega), hk2 (L + 1) (by have := GH.get_lt hI.row; omega) (fun e => by have := hblk _ e; omega), hO1 _ (by omega)]
    exact hI.row
  · rw [GH.get_set_other (by omega) (by rw [GH.set_n]; omega)]
    exact GH.get_set_same hbox2
  · rw [List.flatten_append, List.flatten_cons, List.flatten_nil, List.append_nil]
    refine hown2.keep fun b hb => ?_
    have h1 := hblk' b hb
    rw [GH.get_set_other (by omega) (by rw [GH.set_n]; omega), GH.get_set_other (by omega) (by omega)]

theorem names_ok {k : Nat} {vF vB : Value} {front back : List (List Idn)} {H : GH} (hk : 100 ≤ k) (hF : SlR (tySl tyId) H vF front) (hB : SlR (tySl tyId) H vB back) (hlF : front.length ≤ 1000000000) (hlB : back.length ≤ 1000000000)
    (hlen : (front.take 40 ++ back.take 40).flatten.length ≤ 1000000000) :
    Ev (C (k + 2) (.func (.func 45) #[] #[]) [.agg #[vF, vB]] H) fun r => Ext H r.2 ∧ SlR tyId r.2 r.1 (front.take 40 ++ back.take 40).flatten := by
  rw [C_func T45, f45_eq]
  unfold f45_sh
  have hcell : (Value.cells (.agg #[vF, vB])).toList = [vF, vB] := rfl
  rw [hcell]
  have hp : PtC ((H.push (.row [vF, vB] 24 false)).push (.row [.slice none 0 0] 26 false)) (.pointer (some ⟨H.n, 0, none⟩)) [vF, vB] := (PtC.new H _ _ _).mono (.push _ _)
  have hE2 : Ext H ((H.push (.row [vF, vB] 24 false)).push (.row [.slice none 0 0] 26 false)) := (Ext.push _ _).push' _
  simp only [hp.loadA ld24, onV_s]
  refine Ev.call0 (all44 (k) vF vB _) fun v2 H3 ⟨hv2, hH3⟩ => ?_
  simp only at hv2 hH3
  subst hv2
  rw [onFunc_s]
  have hE3 : Ext H H3 := by rw [hH3]; exact hE2.push' _
  have hn3 : H3.n = H.n + 3 := by rw [hH3]; rfl
  have hb3 : H3.get (H.n + 2) = some (.row [vF, vB] 24 false) := by rw [hH3]; exact GH.get_push_new
  have hbox3 : H3.get (H.n + 1) = some (.row [.slice none 0 0] 26 false) := by
    rw [hH3, GH.get_push_old (by show H.n + 1 < H.n + 2; omega)]; exact GH.get_push_new
  clear hH3
  obtain ⟨k', rfl⟩ : ∃ k', k = k' + 1 := ⟨k - 1, by omega⟩
  have hst := names_step (k := k') (H := H) (front := front) (back := back) (vF := vF) (vB := vB) hn3 rfl hlen (p0 := .agg #[vF, vB]) (q1 := .pointer (some ⟨H.n, 0, none⟩)) (q2 := .slice none 0 0) (v1 := .agg #[vF, vB])
    (v2 := .func (.func 117) #[] #[.pointer (some ⟨H.n + 2, 0, none⟩)])
  refine Ev.bind (R := fun r => NamI H H3.n [.agg #[vF, vB], .pointer (some ⟨H.n, 0, none⟩), .slice none 0 0, .pointer (some ⟨H.n + 1, 0, none⟩), undef, undef, .agg #[vF, vB], .func (.func 117) #[] #[.pointer (some ⟨H.n + 2, 0, none⟩)], undef, undef, undef, undef, undef, undef] vF vB front back (front.take 40 ++ back.take 40) r.2)
    ((all_ok (front := front) (back := back) (b := H.n + 2) (e := 24) (ro := false) hst hk ?_ (hF.mono (hE3.push' _)) (hB.mono (hE3.push' _)) hlF hlB ?_ ?_ ?_ ?_).mono ?_) ?_
  · exact (Ext.push _ _).get_of hb3
  · refine ⟨(hE3.push' _).push' _, ?_, ?_, .slice none 0 0, ?_, .nil, fun b hb => by cases hb⟩
    · exact (Ext.push _ _).get_of GH.get_push_new
    · exact GH.get_push_new
    · exact (Ext.push _ _).get_of ((Ext.push _ _).get_of hbox3)
  · intro D H' hI; exact hI.row
  · intro D H' hI; exact hF.mono hI.ext
  · intro D H' hI; exact hB.mono hI.ext
  · intro r hr
    rcases hr.2 with h | h
    · exact h
    · exact h.elim
  · intro r hI
    rw [onEnd_n (by decide) hI.loop]
    obtain ⟨w, hbox, hown, hblk⟩ := hI.box
    have hLn := GH.get_lt hI.loop
    have hld : ∀ o, gLoad Try.prog 26 (.pointer (some ⟨H.n + 1, 0, none⟩)) (r.2.set H3.n o) = some w := fun o => (PtC.of ((GH.get_set_other (by omega) hLn).trans hbox)).load1 ld26
    simp only [show (H.push (.row [vF, vB] 24 false)).n = H.n + 1 from rfl, hld, onV_s]
    refine Ev.mk ⟨hI.ext.set (by omega) hLn _, ?_⟩
    exact (hown.keep fun b hb => GH.get_set_other (by have := hblk b hb; omega) hLn).slr (hI.ext.set (by omega) hLn _)
end Go.Proofs.Ythicilkmjamefaa
