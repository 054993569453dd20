/- The stacks' functions, on: Check. -/
import Derived.Test.YthicilkmjamefaaStD
namespace Go.Proofs.Ythicilkmjamefaa
open Go.Gh
set_option linter.unusedVariables false
set_option linter.unusedSimpArgs false

theorem ld27 : ldOk Try.prog 27 false 1 = true := by kernel_rfl
theorem gs27 : gSize Try.prog 27 = some 1 := by kernel_rfl
/-- A result that lies in a cell. -/
theorem resCell {H : GH} {b : Nat} {v : Value} {ro : Bool} {e : TypeId} (h : H.get b = some (.row [v] e ro)) : gResL Try.prog H [(.pointer (some ⟨b, 0, none⟩), some 27)] = some v := by
  have h1 := (PtC.of h).load1 ld27
  unfold gResL
  simp only [List.mapM_cons, List.mapM_nil, gRes1, h1]
  rfl
theorem storeI {H : GH} {b : Nat} {v : Value} {e : TypeId} (i : Int) (h : H.get b = some (.row [v] e false)) : gStore Try.prog 27 (.pointer (some ⟨b, 0, none⟩)) (.int .i64 i) H = some (H.set b (.row [.int .i64 i] e false)) :=
  store_row h gs27 rfl rfl rfl

/-- What stands while the stacks' sizes are looked at. -/
structure ChkI (H : GH) (L : Nat) (tm : List Value) (vF vB : Value) (D : List (List Idn)) (H' : GH) : Prop where
  ext : Ext H H'
  loop : H'.get L = some (.loop .ready none tm [18, 19] (fAt Try.f9 [1, 1, 0, 1, 0, 0]) (fAt Try.f9 [1, 1, 0, 1, 0, 1]))
  row : H'.get (L + 1) = some (.row [vF, vB] 22 false)
  box : H'.get H.n = some (.row [.int .i64 0] 27 false)
  small : ∀ l ∈ D, l.length ≤ 4
structure ChkS (H : GH) (L : Nat) (tm : List Value) (items : List (List Idn)) (H' : GH) : Prop where
  ext : Ext H H'
  loop : H'.get L = some (.loop .done (some .ret) tm [18, 19] (fAt Try.f9 [1, 1, 0, 1, 0, 0]) (fAt Try.f9 [1, 1, 0, 1, 0, 1]))
  box : H'.get H.n = some (.row [.int .i64 9] 27 false)
  big : ∃ l ∈ items, 4 < l.length
theorem chk_step {k : Nat} {H : GH} {L : Nat} {vF vB : Value} {front back : List (List Idn)} (hL : H.n < L) {y0 y1 y3 y4 y5 y6 y7 y8 y9 y10 y11 y12 y13 y14 y15 y16 y17 y18 y19 y20 y21 y22 y23 y24 y25 y26 y27 y28 y29 y30 : Value} {items : List (List Idn)} :
    StepOk (k + 1) (.func (.yield L) #[] #[]) items
      (ChkI H L (y0::y1::.pointer (some ⟨H.n, 0, none⟩)::y3::y4::y5::y6::y7::y8::y9::y10::y11::y12::y13::y14::y15::y16::y17::y18::y19::y20::y21::y22::y23::y24::y25::y26::y27::y28::y29::y30::[]) vF vB)
      (ChkS H L (y0::y1::.pointer (some ⟨H.n, 0, none⟩)::y3::y4::y5::y6::y7::y8::y9::y10::y11::y12::y13::y14::y15::y16::y17::y18::y19::y20::y21::y22::y23::y24::y25::y26::y27::y28::y29::y30::[]) items) := by
  intro D x v H' nv hpre hI hv
  rw [C_yield hI.loop rfl]
  show Ev (gCode Try.prog (C k) k (fAt Try.f9 [1, 1, 0, 1, 0, 0]) (y0::y1::.pointer (some ⟨H.n, 0, none⟩)::y3::y4::y5::y6::y7::y8::y9::y10::y11::y12::y13::y14::y15::y16::y17::nv::v::y20::y21::y22::y23::y24::y25::y26::y27::y28::y29::y30::[]) H' (hBegin Try.prog (C k) k L (fAt Try.f9 [1, 1, 0, 1, 0, 1]))) _
  rw [f9_R4_eq]
  unfold f9_R4
  have hlp := hI.loop
  revert hlp
  generalize (y0::y1::.pointer (some ⟨H.n, 0, none⟩)::y3::y4::y5::y6::y7::y8::y9::y10::y11::y12::y13::y14::y15::y16::y17::y18::y19::y20::y21::y22::y23::y24::y25::y26::y27::y28::y29::y30::[]) = tm at hI ⊢
  intro hlp
  rw [onReady_s hlp]
  have hLn := GH.get_lt hlp
  have hE1 := fun o => hI.ext.set (b := L) (by omega) hLn o
  have hL1 := fun o => GH.get_set_same (o := o) hlp
  have hO1 := fun o b (hb : b ≠ L) => GH.get_set_other (H := H') (b := L) (c := b) (o := o) (Ne.symm hb) hLn
  simp only [hv.oLen u26, onV_s, bin_gtr, asB_b, onBool_d]
  have hmem : x ∈ items := by
    obtain ⟨rest, rfl⟩ := hpre
    simp
  by_cases hbig : 4 < x.length
  · rw [if_pos (by omega), storeI 9 ((hO1 _ H.n (by omega)).trans hI.box)]
    simp only [onH_s]
    rw [hRound_r ((GH.get_set_other (by omega) (GH.get_lt ((hO1 _ H.n (by omega)).trans hI.box))).trans (hL1 _))]
    refine Ev.mk (.inr ⟨rfl, ⟨?_, ?_, ?_, x, hmem, hbig⟩⟩)
    · exact ((hE1 _).set (Nat.le_refl _) (by rw [GH.set_n]; omega) _).set (by omega) (by rw [GH.set_n, GH.set_n]; omega) _
    · exact GH.get_set_same ((GH.get_set_other (by omega) (GH.get_lt ((hO1 _ H.n (by omega)).trans hI.box))).trans (hL1 _))
    · rw [GH.get_set_other (by omega) (by rw [GH.set_n, GH.set_n]; omega)]
      exact GH.get_set_same ((hO1 _ H.n (by omega)).trans hI.box)
  · rw [if_neg (by omega), hRound_n (hL1 _)]
    refine Ev.mk (.inl ⟨rfl, ⟨(hE1 _).set (by omega) (by rw [GH.set_n]; omega) _, GH.get_set_same (hL1 _), ?_, ?_, ?_⟩⟩)
    · rw [GH.get_set_other (by omega) (by rw [GH.set_n]; omega), hO1 _ _ (by omega)]; exact hI.row
    · rw [GH.get_set_other (by omega) (by rw [GH.set_n]; omega), hO1 _ _ (by omega)]; exact hI.box
    · intro l hl
      rcases List.mem_append.1 hl with h | h
      · exact hI.small l h
      · rw [List.mem_singleton] at h; subst h; omega

/-- The error of the definition. -/
def chk (front back : List (List Idn)) : Int :=
  if 40 < front.length ∨ 40 < back.length then 9
  else if (front ++ back).any (fun l => decide (4 < l.length)) then 9
  else if (front ++ back).flatten.any (fun x => !named x) then 1
  else if ¬ (front ++ back).flatten.Nodup then 8 else 0

theorem chk_tail {k b : Nat} {vF vB : Value} {front back : List (List Idn)} {H H' : GH} (hk : 1000 ≤ k) (hE : Ext H H') (hb : H.get b = some (.row [vF, vB] 24 false)) (hbox : H'.get H.n = some (.row [.int .i64 0] 27 false))
    (hF : SlR (tySl tyId) H vF front) (hB : SlR (tySl tyId) H vB back) (hlF : front.length ≤ 40) (hlB : back.length ≤ 40) (hsm : ∀ l ∈ front ++ back, l.length ≤ 4) :
    Ev (f9_r7 (C (k + 3)) (k + 3) (.pointer (some ⟨b, 0, none⟩)) (.pointer (some ⟨H.n, 0, none⟩)) H') fun r => Ext H r.2 ∧ r.1 = .int .i64 (chk front back) := by
  unfold f9_r7
  have hflat : (front ++ back).flatten.length ≤ 320 := by
    have : ∀ (l : List (List Idn)), (∀ x ∈ l, x.length ≤ 4) → l.flatten.length ≤ l.length * 4 := by
      intro l
      induction l with
      | nil => intro _; simp
      | cons a l ih =>
        intro h
        have h1 := h a (by simp)
        have h2 := ih fun x hx => h x (by simp [hx])
        simp only [List.flatten_cons, List.length_append, List.length_cons]
        omega
    have h := this (front ++ back) hsm
    simp only [List.length_append] at h
    simp only [List.length_append, List.flatten_append] at h ⊢
    omega
  have ht : front.take 40 ++ back.take 40 = front ++ back := by rw [List.take_of_length_le hlF, List.take_of_length_le hlB]
  have hc : chk front back = (if (front ++ back).flatten.any (fun x => !named x) then 1 else if ¬ (front ++ back).flatten.Nodup then 8 else 0) := by
    unfold chk
    rw [if_neg (by omega), if_neg]
    simp only [List.any_eq_true, decide_eq_true_eq, not_exists, not_and]
    intro l hl
    have := hsm l hl
    omega
  simp only [((PtC.of hb).mono hE).loadA ld24, onV_s]
  refine Ev.call0 (names_ok (k := k + 1) (by omega) (hF.mono hE) (hB.mono hE) (by omega) (by omega) (by rw [ht]; omega)) fun v2 H3 ⟨hE3, hv2⟩ => ?_
  simp only [ht] at hv2 hE3
  refine Ev.call0 (contf_ok (k := k + 1) (p := fun x => !named x) (fun x H => notNamed_ok (k - 1 + 0) x H |> fun h => by rwa [show k - 1 + 0 + 2 = k + 1 by omega] at h) (by omega) (by omega) hv2) fun v4 H5 ⟨hE5, hv4⟩ => ?_
  simp only at hv4 hE5
  subst hv4
  have hb5 : ∀ {H6 : GH}, Ext H' H6 → H6.get H.n = some (.row [.int .i64 0] 27 false) := fun h => h.get_of hbox
  simp only [asB_b, onBool_i]
  by_cases hn : (front ++ back).flatten.any (fun x => !named x) = true
  · rw [if_pos hn, storeI 1 (hb5 (hE3.trans hE5))]
    simp only [onH_s]
    rw [resCell (GH.get_set_same (hb5 (hE3.trans hE5)))]
    exact Ev.mk ⟨(hE.trans (hE3.trans hE5)).set (Nat.le_refl _) (GH.get_lt (hb5 (hE3.trans hE5))) _, by rw [hc, if_pos hn]⟩
  · rw [if_neg hn]
    refine Ev.call0 (twice_ok (k := k + 2) (by omega) (by omega) (hv2.mono hE5)) fun v7 H8 ⟨hE8, hv7⟩ => ?_
    simp only at hv7 hE8
    subst hv7
    simp only [asB_b, onBool_d]
    have hE9 := (hE3.trans hE5).trans hE8
    by_cases hd : ¬ (front ++ back).flatten.Nodup
    · rw [if_pos hd, storeI 8 (hb5 hE9)]
      simp only [onH_s]
      rw [resCell (GH.get_set_same (hb5 hE9))]
      exact Ev.mk ⟨(hE.trans hE9).set (Nat.le_refl _) (GH.get_lt (hb5 hE9)) _, by rw [hc, if_neg hn, if_pos hd]⟩
    · rw [if_neg hd, storeI 0 (hb5 hE9)]
      simp only [onH_s]
      rw [resCell (GH.get_set_same (hb5 hE9))]
      exact Ev.mk ⟨(hE.trans hE9).set (Nat.le_refl _) (GH.get_lt (hb5 hE9)) _, by rw [hc, if_neg hn, if_neg hd]⟩
end Go.Proofs.Ythicilkmjamefaa
